/- Texts joined by a program (merge.py). -/
import Derived.Test.YtnpedjbgchdkbaaGreatDoorMpi
import Derived.Test.YtnpedjbgchdkbaaGreatDoorMpg
import Derived.Test.YtnpedjbgchdkbaaGreatDoorMpj
import Derived.Test.YtnpedjbgchdkbaaGreatDoorMpa
import Derived.Test.YtnpedjbgchdkbaaGreatDoorMpf
import Derived.Test.YtnpedjbgchdkbaaGreatDoorMpd
import Derived.ProofKit
import Derived.SliceStrings
import Derived.Test.YtnpedjbgchdkbaaGreatDoorMpe
import Derived.Shelf.Strings.OnBuilder
import Derived.KernelRfl
import Derived.Test.YtnpedjbgchdkbaaGreatDoorRows
set_option linter.unusedSimpArgs false
set_option linter.unusedVariables false
set_option maxRecDepth 100000
set_option maxHeartbeats 4000000
open List renaming length_map -> Za
open List renaming getElem?_eq_getElem -> Zb
open List renaming length_append -> Zc
open Nat renaming lt_succ_self -> Zd
open List renaming length_cons -> Ze
open ByteArray renaming size -> Zf
open ByteArray renaming extract -> Zg
open List renaming take_of_length_le -> Zh
open List renaming map_cons -> Zi
open List renaming getElem?_map -> Zj
open Nat renaming le_refl -> Zk
open List renaming length_take -> Zl
open List renaming all_eq_true -> Zm
open List renaming getElem?_append_left -> Zn
open Prod.mk renaming injEq -> Zo
open List renaming map_append -> Zp
open List renaming take_succ_eq_append_getElem -> Zq
open List renaming map_nil -> Zr
namespace Go.CE
variable {P : Program}
theorem awake_to {call : Vag} (hcall : CallOk P call) {f : FuncId} (hent : Eng.Enterable P f) {n0 : ID} (h : okB (call (.f f) [] h0 n0) = true) : Eng.CallTo P f [] [] [] (.av (.val (.bool true))) [] [] := by
 obtain ⟨H', n', hr⟩ : ∃ H' n', call (.f f) [] h0 n0 = .ok (.b true) H' n' := by
  cases hc : call (.f f) [] h0 n0 with
  | no => rw [hc] at h; cases h
  | ok v H' n' =>
   rw [hc] at h; cases v with
   | b x =>
    have hx : x = true := h; subst hx; exact ⟨H', n', rfl⟩
   | _ => cases h
 refine ⟨hent, fun G w vs hw hargs _ _ => ?_⟩
 have hvs : vs = [] := by simpa only [Eng.RepSs] using hargs
 subst hvs
 have hcd := (hcall.f f [] h0 n0 _ H' n' hr (fun _ => none) w [] (by simp [VRs]) ⟨fun i hi => absurd (Vhy i) hi, fun i j _ _ hi => absurd (Vhy i) hi⟩ (fun i _ _ => rfl)).enters hent; refine (callsIn_wide.1 hcd).mono ?_; rintro e w' ⟨u, rfl, ρ', e1, e2, e3⟩
 have hout : ∀ b, b < w.heap.size -> w'.heap[b]? = w.heap[b]? := fun b hb => e1.out b hb (fun i x hi => absurd (Vhy i) hi)
 simp only [VR] at e3; subst e3
 have hkeep : ∀ κ, Eng.Keep G w G w' κ := fun κ => ⟨rfl, fun b hb => ⟨hout b (hw.lt κ b hb), rfl⟩⟩
 have himm : Eng.Imm G.U w w' := Eng.imm_of (fun b hb => hout b (by
  rcases Nat.lt_or_ge b w.heap.size with q | q
  ·exact q
  ·have := hw.zero b q; omega))
 exact ⟨.bool true, G, rfl, ⟨⟨fun _ => Zk _, himm, e1.size, e1.os, Prod.ext e1.tape rfl, e1.output, fun _ _ => rfl, fun _ => Zk _, fun κ _ _ => hkeep κ⟩, fun b hb _ => ⟨hout b hb, rfl⟩, fun κ b hb => .inl ⟨κ, hb⟩⟩,
  ⟨hw.inj, fun κ b hb => Nat.lt_of_lt_of_le (hw.lt κ b hb) e1.size, fun b hb => hw.zero b (Nat.le_trans e1.size hb)⟩, by simp only [Eng.RepS, Eng.Rep]; exact ⟨trivial, rfl⟩, fun p hp => by simp at hp, fun i _ => hkeep _, fun _ _ => rfl, fun _ => rfl⟩
end Go.CE
namespace Go.Proofs.YtnpedjbgchdkbaaGreatDoor
open Go Go.CE
theorem lib_ok : ∀ f g, lib f = some g -> LibOk Tryz.prog f g := by
 intro f g h; unfold lib at h
 have key : ∀ (m : Nat) (x : LibF) (r : Option LibF), LibOk Tryz.prog m x -> (r = some g -> LibOk Tryz.prog f g) -> bc (Nat.beq f m) (some x) r = some g -> LibOk Tryz.prog f g := by
  intro m x r hx hr hb; cases hm : Nat.beq f m with
  | true =>
   rw [hm] at hb; rw [Nat.beq_eq] at hm; cases hb; rw [hm]; exact hx
  | false => rw [hm] at hb; exact hr hb
 exact (key _ _ _ stringOk (key _ _ _ checkOk (key _ _ _ countOk (key _ _ _ indexOk (key _ _ _ atoiOk (fun h => by cases h)))))) h
theorem mixed : Tryz.prog.follows .mixedOrders = true := by kernel_rfl
theorem awake_to : Eng.CallTo Tryz.prog 4 [] [] [] (.av (.val (.bool true))) [] [] :=
 CE.awake_to (callF_ok mixed lib_ok 60) ⟨_, Tryz.func4, by kernel_rfl, by kernel_rfl⟩ awake_runs
end Go.Proofs.YtnpedjbgchdkbaaGreatDoor
namespace Go.CE
variable {P : Program}
def argOk : CVal -> Bool
 | .b _ => true
 | .i _ _ => true
 | .s l => l.all (fun x => decide (x < 256))
 | _ => false
def argSV : CVal -> Eng.SV
 | .b x => .av (.val (.bool x))
 | .i k n => .av (.val (.int k n))
 | .s l => .av (.val (.string (str l)))
 | _ => .junk
def c1 : CVal -> Eng.AV
 | .b x => .val (.bool x)
 | .i k n => .val (.int k n)
 | .s l => .val (.string (str l))
 | .v (.slice none 0 0) => .sl []
 | .v x => .val x
 | _ => .val (.bool false)
def k1 : CVal -> Bool
 | .b _ => true
 | .i _ _ => true
 | .s _ => true
 | .v _ => true
 | _ => false
def c2 : CVal -> Eng.AV
 | .ag l => .agg (l.map c1)
 | x => c1 x
def k2 : CVal -> Bool
 | .ag l => l.all k1
 | x => k1 x
def c3 : CVal -> Eng.AV
 | .tu l => .tup (l.map c2)
 | x => c2 x
def k3 : CVal -> Bool
 | .tu l => l.all k2
 | x => k2 x
theorem c1_rep {U : Nat -> Nat} {w : World} {ρ : Loc} : ∀ {x : CVal} {u : Value}, VR ρ x u -> k1 x = true -> Eng.Rep U w (c1 x) u := by
 intro x u h hk; cases x with
 | b y => simp only [VR] at h; subst h; exact ⟨rfl, rfl⟩
 | i k n => simp only [VR] at h; subst h; exact ⟨rfl, rfl⟩
 | s l => simp only [VR] at h; obtain ⟨rfl, _⟩ := h; exact ⟨rfl, rfl⟩
 | v y =>
  simp only [VR] at h; obtain ⟨rfl, h1⟩ := h; unfold c1
  split
  ·rename_i e; cases e
  ·rename_i e; cases e
  ·rename_i e; cases e
  ·rename_i e; cases e; exact Eng.Rep_nil _ _
  ·rename_i e; cases e; exact ⟨rfl, h1⟩
  ·rename_i _ _ _ _ q; exact absurd rfl (q u)
 | _ => cases hk
theorem c1_reps {U : Nat -> Nat} {w : World} {ρ : Loc} : ∀ {l : List CVal} {us : List Value}, l.all k1 = true -> VRs ρ l us -> Eng.RepL U w (l.map c1) us
 | [], us, _, h => by simp only [VRs] at h; subst h; simp only [Zr, Eng.RepL]
 | x :: l, us, hk, h => by
  simp only [List.all_cons, Bool.and_eq_true] at hk; simp only [VRs] at h; obtain ⟨u, us', rfl, h1, h2⟩ := h; simp only [Zi, Eng.RepL]; exact ⟨u, us', rfl, c1_rep h1 hk.1, c1_reps hk.2 h2⟩
theorem c2_rep {U : Nat -> Nat} {w : World} {ρ : Loc} {x : CVal} {u : Value} (h : VR ρ x u) (hk : k2 x = true) : Eng.Rep U w (c2 x) u := by
 cases x with
 | ag l =>
  simp only [VR] at h; obtain ⟨us, rfl, h1, h2⟩ := h; exact ⟨us, rfl, c1_reps hk h1, h2⟩
 | _ => have q := c1_rep (U := U) (w := w) h hk; exact q
theorem c2_reps {U : Nat -> Nat} {w : World} {ρ : Loc} : ∀ {l : List CVal} {us : List Value}, l.all k2 = true -> VRs ρ l us -> Eng.RepL U w (l.map c2) us
 | [], us, _, h => by simp only [VRs] at h; subst h; simp only [Zr, Eng.RepL]
 | x :: l, us, hk, h => by
  simp only [List.all_cons, Bool.and_eq_true] at hk; simp only [VRs] at h; obtain ⟨u, us', rfl, h1, h2⟩ := h; simp only [Zi, Eng.RepL]; exact ⟨u, us', rfl, c2_rep h1 hk.1, c2_reps hk.2 h2⟩
theorem c3_rep {U : Nat -> Nat} {w : World} {ρ : Loc} {x : CVal} {u : Value} (hk : k3 x = true) (h : VR ρ x u) : Eng.Rep U w (c3 x) u := by
 cases x with
 | tu l =>
  simp only [VR] at h; obtain ⟨us, rfl, h1⟩ := h; exact ⟨us, rfl, c2_reps hk h1⟩
 | _ => have q := c2_rep (U := U) (w := w) h hk; exact q
theorem arg_vr {G : Eng.Gh} {w : World} {ρ : Loc} : ∀ {l : List CVal} {vs : List Value}, l.all argOk = true -> Eng.RepSs G w (l.map argSV) vs -> VRs ρ l vs
 | [], vs, _, h => by simp only [Zr, Eng.RepSs] at h; subst h; simp only [VRs]
 | x :: l, vs, hk, h => by
  simp only [List.all_cons, Bool.and_eq_true] at hk; simp only [Zi, Eng.RepSs] at h; obtain ⟨u, us, rfl, h1, h2⟩ := h; simp only [VRs]; refine ⟨u, us, rfl, ?_, arg_vr hk.2 h2⟩; cases x with
  | b y => simp only [VR]; exact h1.1
  | i k n => simp only [VR]; exact h1.1
  | s s => simp only [VR]; exact ⟨h1.1, fun z hz => of_decide_eq_true (Zm.1 hk.1 z hz)⟩
  | _ => cases hk.1
def resV (r : Rs) : Option CVal := match r with
 | .ok v _ _ => some v
 | _ => none
theorem closed_to {call : Vag} (hcall : CallOk P call) {f : FuncId} (hent : Eng.Enterable P f) (args : List CVal) (hargs : args.all argOk = true) {n0 : ID} (r : CVal) (h : resV (call (.f f) args h0 n0) = some r) (hk : k3 r = true) : Eng.CallTo P f (args.map argSV) [] [] (.av (c3 r)) [] [] := by
 obtain ⟨H', n', hr⟩ : ∃ H' n', call (.f f) args h0 n0 = .ok r H' n' := by
  cases hc : call (.f f) args h0 n0 with
  | no => rw [hc] at h; cases h
  | ok v H' n' => rw [hc] at h; cases h; exact ⟨H', n', rfl⟩
 refine ⟨hent, fun G w vs hw ha _ _ => ?_⟩
 have hcd := (hcall.f f args h0 n0 _ H' n' hr (fun _ => none) w vs (arg_vr hargs ha) ⟨fun i hi => absurd (Vhy i) hi, fun i j _ _ hi => absurd (Vhy i) hi⟩ (fun i _ _ => rfl)).enters hent; refine (callsIn_wide.1 hcd).mono ?_; rintro e w' ⟨u, rfl, ρ', e1, e2, e3⟩
 have hout : ∀ b, b < w.heap.size -> w'.heap[b]? = w.heap[b]? := fun b hb => e1.out b hb (fun i x hi => absurd (Vhy i) hi)
 have hkeep : ∀ κ, Eng.Keep G w G w' κ := fun κ => ⟨rfl, fun b hb => ⟨hout b (hw.lt κ b hb), rfl⟩⟩
 have himm : Eng.Imm G.U w w' := Eng.imm_of (fun b hb => hout b (by
  rcases Nat.lt_or_ge b w.heap.size with q | q
  ·exact q
  ·have := hw.zero b q; omega))
 exact ⟨u, G, rfl, ⟨⟨fun _ => Zk _, himm, e1.size, e1.os, Prod.ext e1.tape rfl, e1.output, fun _ _ => rfl, fun _ => Zk _, fun κ _ _ => hkeep κ⟩, fun b hb _ => ⟨hout b hb, rfl⟩, fun κ b hb => .inl ⟨κ, hb⟩⟩,
  ⟨hw.inj, fun κ b hb => Nat.lt_of_lt_of_le (hw.lt κ b hb) e1.size, fun b hb => hw.zero b (Nat.le_trans e1.size hb)⟩, by simp only [Eng.RepS]; exact c3_rep hk e3, fun p hp => by simp at hp, fun i _ => hkeep _, fun _ _ => rfl, fun _ => rfl⟩
end Go.CE
set_option maxRecDepth 1000000
namespace Go.Proofs.YtnpedjbgchdkbaaGreatDoor
open Go Go.Eng
def lnL (c : Nat) : List UInt8 := if c < 16 then wL c else []
def lnB (c : Nat) : ByteArray := ⟨(lnL c).toArray⟩
def mkL (c : Nat) : List AV := [vI (if c < 16 then 0 else 1), vI 0, vS ⟨#[]⟩, vI 0, vS ⟨#[]⟩, vS (lnB c), vS ⟨#[]⟩, vS ⟨#[]⟩, vS ⟨#[]⟩, .sl [], .sl []]
def mkA (c : Nat) : AV := .agg (mkL c)
def mkC (k : Int) (l : List Nat) : CE.CVal := .ag [.i .i64 k, .i .i64 0, .s [], .i .i64 0, .s [], .s l, .s [], .s [], .s [], .v (.slice none 0 0), .v (.slice none 0 0)]
theorem clo {f : Nat} (he : Enterable Tryz.prog f) (l : List Nat) (r : CE.CVal) (h : (CE.argOk (.s l), CE.resV (CE.callF Tryz.prog lib 60 (.f f) [.s l] CE.h0 ⟨.d0, .d0, .d0, .d0, .d0⟩), CE.k3 r) = (true, some r, true)) : CallTo Tryz.prog f [.av (.val (.string (CE.str l)))] [] [] (.av (CE.c3 r)) [] [] := by
 simp only [Zo] at h; exact CE.closed_to (CE.callF_ok mixed lib_ok 60) he [.s l] (by simp [h.1]) r h.2.1 h.2.2
theorem of_to (c : Nat) (hc : c < 17) : CallTo Tryz.prog 63 [jS (lnB c)] [] [] (.av (mkA c)) [] [] := by
 have e : Enterable Tryz.prog 63 := ⟨_, Tryz.func63, by kernel_rfl, by kernel_rfl⟩
 match c, hc with
 | 0, _ => exact Vac (by kernel_rfl) (clo e [119, 97] (mkC 0 [119, 97]) (by kernel_rfl))
 | 1, _ => exact Vac (by kernel_rfl) (clo e [119, 98] (mkC 0 [119, 98]) (by kernel_rfl))
 | 2, _ => exact Vac (by kernel_rfl) (clo e [119, 99] (mkC 0 [119, 99]) (by kernel_rfl))
 | 3, _ => exact Vac (by kernel_rfl) (clo e [119, 100] (mkC 0 [119, 100]) (by kernel_rfl))
 | 4, _ => exact Vac (by kernel_rfl) (clo e [119, 101] (mkC 0 [119, 101]) (by kernel_rfl))
 | 5, _ => exact Vac (by kernel_rfl) (clo e [119, 102] (mkC 0 [119, 102]) (by kernel_rfl))
 | 6, _ => exact Vac (by kernel_rfl) (clo e [119, 103] (mkC 0 [119, 103]) (by kernel_rfl))
 | 7, _ => exact Vac (by kernel_rfl) (clo e [119, 104] (mkC 0 [119, 104]) (by kernel_rfl))
 | 8, _ => exact Vac (by kernel_rfl) (clo e [119, 105] (mkC 0 [119, 105]) (by kernel_rfl))
 | 9, _ => exact Vac (by kernel_rfl) (clo e [119, 106] (mkC 0 [119, 106]) (by kernel_rfl))
 | 10, _ => exact Vac (by kernel_rfl) (clo e [119, 107] (mkC 0 [119, 107]) (by kernel_rfl))
 | 11, _ => exact Vac (by kernel_rfl) (clo e [119, 108] (mkC 0 [119, 108]) (by kernel_rfl))
 | 12, _ => exact Vac (by kernel_rfl) (clo e [119, 109] (mkC 0 [119, 109]) (by kernel_rfl))
 | 13, _ => exact Vac (by kernel_rfl) (clo e [119, 110] (mkC 0 [119, 110]) (by kernel_rfl))
 | 14, _ => exact Vac (by kernel_rfl) (clo e [119, 111] (mkC 0 [119, 111]) (by kernel_rfl))
 | 15, _ => exact Vac (by kernel_rfl) (clo e [119, 112] (mkC 0 [119, 112]) (by kernel_rfl))
 | 16, _ => exact Vac (by kernel_rfl) (clo e [] (mkC 1 []) (by kernel_rfl))
 | n + 17, h => exact absurd h (by omega)
theorem val_to (c : Nat) (hc : c < 17) : CallTo Tryz.prog 14 [jS (lnB c)] [] [] (.av (vB true)) [] [] := by
 have e : Enterable Tryz.prog 14 := ⟨_, Tryz.func14, by kernel_rfl, by kernel_rfl⟩
 match c, hc with
 | 0, _ => exact Vac (by kernel_rfl) (clo e [119, 97] (.b true) (by kernel_rfl))
 | 1, _ => exact Vac (by kernel_rfl) (clo e [119, 98] (.b true) (by kernel_rfl))
 | 2, _ => exact Vac (by kernel_rfl) (clo e [119, 99] (.b true) (by kernel_rfl))
 | 3, _ => exact Vac (by kernel_rfl) (clo e [119, 100] (.b true) (by kernel_rfl))
 | 4, _ => exact Vac (by kernel_rfl) (clo e [119, 101] (.b true) (by kernel_rfl))
 | 5, _ => exact Vac (by kernel_rfl) (clo e [119, 102] (.b true) (by kernel_rfl))
 | 6, _ => exact Vac (by kernel_rfl) (clo e [119, 103] (.b true) (by kernel_rfl))
 | 7, _ => exact Vac (by kernel_rfl) (clo e [119, 104] (.b true) (by kernel_rfl))
 | 8, _ => exact Vac (by kernel_rfl) (clo e [119, 105] (.b true) (by kernel_rfl))
 | 9, _ => exact Vac (by kernel_rfl) (clo e [119, 106] (.b true) (by kernel_rfl))
 | 10, _ => exact Vac (by kernel_rfl) (clo e [119, 107] (.b true) (by kernel_rfl))
 | 11, _ => exact Vac (by kernel_rfl) (clo e [119, 108] (.b true) (by kernel_rfl))
 | 12, _ => exact Vac (by kernel_rfl) (clo e [119, 109] (.b true) (by kernel_rfl))
 | 13, _ => exact Vac (by kernel_rfl) (clo e [119, 110] (.b true) (by kernel_rfl))
 | 14, _ => exact Vac (by kernel_rfl) (clo e [119, 111] (.b true) (by kernel_rfl))
 | 15, _ => exact Vac (by kernel_rfl) (clo e [119, 112] (.b true) (by kernel_rfl))
 | 16, _ => exact Vac (by kernel_rfl) (clo e [] (.b true) (by kernel_rfl))
 | n + 17, h => exact absurd h (by omega)
theorem tri_to (c : Nat) (hc : c < 17) : CallTo Tryz.prog 35 [jS (lnB c)] [] [] (.av (vS (lnB c))) [] [] := by
 have e : Enterable Tryz.prog 35 := ⟨_, Tryz.func35, by kernel_rfl, by kernel_rfl⟩
 match c, hc with
 | 0, _ => exact Vac (by kernel_rfl) (clo e [119, 97] (.s [119, 97]) (by kernel_rfl))
 | 1, _ => exact Vac (by kernel_rfl) (clo e [119, 98] (.s [119, 98]) (by kernel_rfl))
 | 2, _ => exact Vac (by kernel_rfl) (clo e [119, 99] (.s [119, 99]) (by kernel_rfl))
 | 3, _ => exact Vac (by kernel_rfl) (clo e [119, 100] (.s [119, 100]) (by kernel_rfl))
 | 4, _ => exact Vac (by kernel_rfl) (clo e [119, 101] (.s [119, 101]) (by kernel_rfl))
 | 5, _ => exact Vac (by kernel_rfl) (clo e [119, 102] (.s [119, 102]) (by kernel_rfl))
 | 6, _ => exact Vac (by kernel_rfl) (clo e [119, 103] (.s [119, 103]) (by kernel_rfl))
 | 7, _ => exact Vac (by kernel_rfl) (clo e [119, 104] (.s [119, 104]) (by kernel_rfl))
 | 8, _ => exact Vac (by kernel_rfl) (clo e [119, 105] (.s [119, 105]) (by kernel_rfl))
 | 9, _ => exact Vac (by kernel_rfl) (clo e [119, 106] (.s [119, 106]) (by kernel_rfl))
 | 10, _ => exact Vac (by kernel_rfl) (clo e [119, 107] (.s [119, 107]) (by kernel_rfl))
 | 11, _ => exact Vac (by kernel_rfl) (clo e [119, 108] (.s [119, 108]) (by kernel_rfl))
 | 12, _ => exact Vac (by kernel_rfl) (clo e [119, 109] (.s [119, 109]) (by kernel_rfl))
 | 13, _ => exact Vac (by kernel_rfl) (clo e [119, 110] (.s [119, 110]) (by kernel_rfl))
 | 14, _ => exact Vac (by kernel_rfl) (clo e [119, 111] (.s [119, 111]) (by kernel_rfl))
 | 15, _ => exact Vac (by kernel_rfl) (clo e [119, 112] (.s [119, 112]) (by kernel_rfl))
 | 16, _ => exact Vac (by kernel_rfl) (clo e [] (.s []) (by kernel_rfl))
 | n + 17, h => exact absurd h (by omega)
theorem alg_to (c : Nat) (hc : c < 17) : CallTo Tryz.prog 139 [jS (lnB c)] [] [] (.av (.tup [vS ⟨#[]⟩, vB false])) [] [] := by
 have e : Enterable Tryz.prog 139 := ⟨_, Tryz.func139, by kernel_rfl, by kernel_rfl⟩
 match c, hc with
 | 0, _ => exact Vac (by kernel_rfl) (clo e [119, 97] (.tu [.s [], .b false]) (by kernel_rfl))
 | 1, _ => exact Vac (by kernel_rfl) (clo e [119, 98] (.tu [.s [], .b false]) (by kernel_rfl))
 | 2, _ => exact Vac (by kernel_rfl) (clo e [119, 99] (.tu [.s [], .b false]) (by kernel_rfl))
 | 3, _ => exact Vac (by kernel_rfl) (clo e [119, 100] (.tu [.s [], .b false]) (by kernel_rfl))
 | 4, _ => exact Vac (by kernel_rfl) (clo e [119, 101] (.tu [.s [], .b false]) (by kernel_rfl))
 | 5, _ => exact Vac (by kernel_rfl) (clo e [119, 102] (.tu [.s [], .b false]) (by kernel_rfl))
 | 6, _ => exact Vac (by kernel_rfl) (clo e [119, 103] (.tu [.s [], .b false]) (by kernel_rfl))
 | 7, _ => exact Vac (by kernel_rfl) (clo e [119, 104] (.tu [.s [], .b false]) (by kernel_rfl))
 | 8, _ => exact Vac (by kernel_rfl) (clo e [119, 105] (.tu [.s [], .b false]) (by kernel_rfl))
 | 9, _ => exact Vac (by kernel_rfl) (clo e [119, 106] (.tu [.s [], .b false]) (by kernel_rfl))
 | 10, _ => exact Vac (by kernel_rfl) (clo e [119, 107] (.tu [.s [], .b false]) (by kernel_rfl))
 | 11, _ => exact Vac (by kernel_rfl) (clo e [119, 108] (.tu [.s [], .b false]) (by kernel_rfl))
 | 12, _ => exact Vac (by kernel_rfl) (clo e [119, 109] (.tu [.s [], .b false]) (by kernel_rfl))
 | 13, _ => exact Vac (by kernel_rfl) (clo e [119, 110] (.tu [.s [], .b false]) (by kernel_rfl))
 | 14, _ => exact Vac (by kernel_rfl) (clo e [119, 111] (.tu [.s [], .b false]) (by kernel_rfl))
 | 15, _ => exact Vac (by kernel_rfl) (clo e [119, 112] (.tu [.s [], .b false]) (by kernel_rfl))
 | 16, _ => exact Vac (by kernel_rfl) (clo e [] (.tu [.s [], .b false]) (by kernel_rfl))
 | n + 17, h => exact absurd h (by omega)
def ClnS (s : ByteArray) : Prop := ∀ j, j < s.size -> byt s j = 10 \/ (97 <= byt s j /\ byt s j <= 122)
theorem cln0_to : CallTo Tryz.prog 12 [jS ⟨#[]⟩] [] [] (jS ⟨#[]⟩) [] [] := Vac (by kernel_rfl) (CE.closed_to (CE.callF_ok mixed lib_ok 60) ⟨_, Tryz.func12, by kernel_rfl, by kernel_rfl⟩ [.s []] (by kernel_rfl) (n0 := ⟨.d0, .d0, .d0, .d0, .d0⟩) (.s []) (by kernel_rfl) (by kernel_rfl))
def clB (s : ByteArray) (v g : Nat) : List (Nat × ABox) := [(3, .cells 67 [.son 3, .own KBx g 1 (Va5 (s.extract 0 v))]), (7, .it s v)]
def clS (s : ByteArray) (v g : Nat) (l : List (Nat × SV)) : St := sx 40 ([(0, jS s), (3, .ptr 3 0), (7, .ptr 7 0)] ++ l) (clB s v g) [(KBx, g)]
theorem cl2 (s : ByteArray) : W Tryz.prog (.region 2 (Vab 2 Tryz.f12) false) (fun e S1 => e = .normal /\ Weak S1 (sx 40 [(0, jS s), (3, .ptr 3 0), (7, .ptr 7 0)] [(3, .cells 67 [.av (.val (.pointer none)), .nil]), (7, .it s 0)] [])) (sx 40 [(0, jS s), (3, .ptr 3 0)] [(3, .cells 67 [.av (.val (.pointer none)), .nil])] []) := by
 refine Vak ?_; rw [show (Vab 2 Tryz.f12).toList = [regO 2 Tryz.f12 0, regO 2 Tryz.f12 1] by kernel_rfl]; refine Vap (jS s) 6 (by kernel_rfl) (by kernel_rfl) ?_; refine Vim (.ptr 7 0) 7 (by kernel_rfl) (sound_range (t := 9) (x := .tmp 6) (s := s) (id := 7) (by kernel_rfl) (by kernel_rfl) (by kernel_rfl) (by decide) (by kernel_rfl)) ?_; exact Vbw rfl ⟨rfl, WK (by kernel_rfl)⟩
def clN (s : ByteArray) (v g : Nat) : St := sx 40 [(0, jS s), (3, .ptr 3 0), (7, .ptr 7 0), (8, .av (.tup [vB true, vI ((v : Nat) : Int), .val (.int .i32 ((byt s v : Nat) : Int))])), (9, jB true)] [(3, .cells 67 [.son 3, .own KBx g 1 (Va5 (s.extract 0 v))]), (7, .it s (v + 1))] [(KBx, g)]
theorem cl3 (s : ByteArray) (v g : Nat) (h : v < s.size) (ha : byt s v < 128) : W Tryz.prog (.region 3 (Vab 3 Tryz.f12) false) (fun e S1 => e = .normal /\ Weak S1 (clN s v g)) (clS s v g []) := by
 refine Vak ?_; rw [show (Vab 3 Tryz.f12).toList = [regO 3 Tryz.f12 0, regO 3 Tryz.f12 1] by kernel_rfl]
 have hs := sound_next (P := Tryz.prog) (o := regO 3 Tryz.f12 0) (S := clS s v g []) (x := .tmp 7) (b := 7) (s := s) (pos := v) (by kernel_rfl) (by kernel_rfl) (by kernel_rfl) h; rw [dec_a h ha] at hs; refine Vim (.av (.tup [vB true, vI ((v : Nat) : Int), .val (.int .i32 ((byt s v : Nat) : Int))])) 8 (by kernel_rfl) hs ?_; refine Vap (jB true) 9 (by kernel_rfl) (by kernel_rfl) ?_; exact Vbw rfl ⟨rfl, WK (by kernel_rfl)⟩
theorem cl3e (s : ByteArray) (g : Nat) : W Tryz.prog (.region 3 (Vab 3 Tryz.f12) false) (fun e S1 => e = .normal /\ Weak S1 (clS s s.size g [(9, jB false)])) (clS s s.size g []) := by
 refine Vak ?_; rw [show (Vab 3 Tryz.f12).toList = [regO 3 Tryz.f12 0, regO 3 Tryz.f12 1] by kernel_rfl]; refine Vim (.av (.tup [.val (.bool false)])) 8 (by kernel_rfl) (Vnd (P := Tryz.prog) (o := regO 3 Tryz.f12 0) (S := clS s s.size g []) (x := .tmp 7) (b := 7) (s := s) (pos := s.size) (by kernel_rfl) (by kernel_rfl) (by kernel_rfl) (Nat.lt_irrefl _)) ?_; refine Vap (jB false) 9 (by kernel_rfl) (by kernel_rfl) ?_; exact Vbw rfl ⟨rfl, WK (by kernel_rfl)⟩
theorem uncB_no {c : Int} (h : c = 10 \/ (97 <= c /\ c <= 122)) : uncB c = false := by
 unfold uncB; rcases h with rfl | ⟨h1, h2⟩
 ·rfl
 ·rw [show decide (c < 32) = false from decide_eq_false (by omega), beq_false_of_ne (show c ≠ 127 by omega)]; rfl
theorem cln_to (s : ByteArray) (hs : s.size <= 1073741824) (h0 : 0 < s.size) (hL : ClnS s) : CallTo Tryz.prog 12 [jS s] [] [] (jS s) [] [] := by
 refine bG Tryz.func12 ?_; refine gO (tn 2 (kq 2 z)) ?_; refine NXW (sx 40 [(0, jS s), (3, .ptr 3 0), (7, .ptr 7 0)] [(3, .cells 67 [.av (.val (.pointer none)), .nil]), (7, .it s 0)] []) z (by kernel_rfl) ?_ (by kernel_rfl) ?_
 ·refine Vb6 (S' := sx 40 [(0, jS s), (3, .ptr 3 0)] [(3, .cells 67 [.av (.val (.pointer none)), .nil])] []) (WK (by kernel_rfl)) ?_; exact Vbh (c' := .region 2 (Vab 2 Tryz.f12) false) (by kernel_rfl) (cl2 s)
 have hz0 : (Va5 (s.extract 0 0) : List AV) = [] := by simp [Va5]
 refine RT [(3, 0, .son 3), (3, 1, .own KBx 0 1 (Va5 (s.extract 0 0)))] (ac (show (AV.val (.pointer none)) = .val (.pointer none) from rfl) (ac (show (Va5 (s.extract 0 0) : List AV) = [] /\ 0 < 6 /\ (0 : Nat) = 0 from ⟨hz0, by decide, rfl⟩) an)) (by kernel_rfl) ?_; refine LP (n := s.size + 1) (fun N M S => ∃ (v g : Nat), v <= s.size /\ s.size - v < N /\ M = () /\ S = clS s v g []) (by kernel_rfl) ⟨0, 0, by omega, by omega, rfl, rfl⟩ (WK (by kernel_rfl)) ?_; rintro n0 M S ⟨v, g, hv, hF0, rfl, rfl⟩; obtain ⟨n0, rfl⟩ : ∃ k, n0 = k + 1 := ⟨n0 - 1, by omega⟩
 refine gO (kq 3 z) ?_
 by_cases h1 : v < s.size
 ·have hb := hL v h1
  have hw : IntKind.wrap .i64 ((byt s v : Nat) : Int) = ((byt s v : Nat) : Int) := wrE _ _ (by omega)
  have k13 : (((byt s v : Nat) : Int) == 13) = false := beq_false_of_ne (by omega)
  have k9 : (((byt s v : Nat) : Int) == 9) = false := beq_false_of_ne (by omega)
  have hun := uncB_to (IntKind.wrap .i64 ((byt s v : Nat) : Int))
  have huf : uncB (IntKind.wrap .i64 ((byt s v : Nat) : Int)) = false := by rw [hw]; exact uncB_no (by omega)
  have hle : (s.extract 0 v).size = v := by simp; omega
  have hwr0 := wrr_to (s.extract 0 v) ((byt s v : Nat) : Int) g (by omega) (by omega); rw [ext_push h1] at hwr0
  have hwr : CallTo Tryz.prog 25 [.ptr 3 0, jR ((byt s v : Nat) : Int)] [(3, .cells 67 [.son 3, .own KBx g 1 (Va5 (s.extract 0 v))])] [(KBx, g)] (.av (.tup [vI 1, .val .nilIface])) [(3, .cells 67 [.son 3, .own KBx (g + 1) 1 (Va5 (s.extract 0 (v + 1)))])] [(KBx, g + 1)] :=
   Vac (by kernel_rfl) (Vaf (Vas (3, 0) (1000, 0) rfl) hwr0)
  refine NXW (clN s v g) (kb (b := true) (d := true) rfl (tn 4 (tn 3 (kb k13 (tn 3 (kb k9 (tn 2 (kc hun (tn 1 (kb huf (tn 1 (kg hwr (show g = g /\ True from ⟨rfl, trivial⟩) z)))))))))))) (by kernel_rfl) ?_ (by kernel_rfl) ?_
  ·refine Vb6 (S' := clS s v g []) (WK (by kernel_rfl)) ?_; exact Vbh (c' := .region 3 (Vab 3 Tryz.f12) false) (by kernel_rfl) (cl3 s v g h1 (by omega))
  exact AG (m := n0) ⟨v + 1, g + 1, by omega, by omega, rfl, rfl⟩ (WK (by kernel_rfl)) (by kernel_rfl) (Zd _)
 ·have hvs : v = s.size := by omega
  subst hvs
  have hee : s.extract 0 s.size = s := by simp
  have hst0 := Vr1 (.son 1000) 1300 g (s.extract 0 s.size) (by rw [hee]; exact h0) (by rw [hee]; omega)
  have hst : CallTo Tryz.prog 26 [.ptr 3 0] [(3, .cells 67 [.son 3, .own KBx g 1 (Va5 (s.extract 0 s.size))])] [(KBx, g)] (.av (.val (.string s))) [(3, .cells 67 [.son 3, .av (.sl (Va5 (s.extract 0 s.size)))])] [(KBx, g + 1)] := by
   rw [hee] at hst0 ⊢; exact Vac (by kernel_rfl) (Vaf (Vas (3, 0) (1000, 0) rfl) hst0)
  refine NXW (clS s s.size g [(9, jB false)]) (kb (b := false) (d := false) rfl z) (by kernel_rfl) ?_ (by kernel_rfl) ?_
  ·refine Vb6 (S' := clS s s.size g []) (WK (by kernel_rfl)) ?_; exact Vbh (c' := .region 3 (Vab 3 Tryz.f12) false) (by kernel_rfl) (cl3e s g)
  refine OUT (kg hst (show g = g /\ True from ⟨rfl, trivial⟩) (tn 1 z)) (by kernel_rfl) ?_; exact eN
end Go.Proofs.YtnpedjbgchdkbaaGreatDoor
namespace Go.Eng
open Go.ChangeShapes Go.WideShapes Go.ChangeAt Go.RowKit
def U0 (w : World) (b : Nat) : Nat := match w.heap[b]? with
 | some (.cells arr _ _) => arr.size
 | _ => 0
theorem wf0 (w : World) : Wf ⟨U0 w, fun _ => 0, fun _ => none, fun _ => 0, []⟩ w :=
 ⟨fun κ κ' b h => by simp at h, fun κ b h => by simp at h, fun b hb => by simp only [U0]; rw [Array.getElem?_eq_none hb]⟩
theorem law_calls {P : Program} {f : FuncId} {xs : List AV} (h : CallTo P f (xs.map .av) [] [] (jB true) [] []) {W : World} {vs : List Value} (hr : RepL (U0 W) W xs vs) :
  Calls P f vs.toArray W (fun e W' => e = .returned (.bool true) /\ Below W.heap.size W W') := by
 refine (h.2 ⟨U0 W, fun _ => 0, fun _ => none, fun _ => 0, []⟩ W vs (wf0 W) (Veq hr) (by simp) (by simp)).mono ?_; rintro e w' ⟨v, G', rfl, s1, _, s3, _⟩; simp only [jB, RepS, Rep] at s3; rw [s3.1]; exact ⟨rfl, s1.os, s1.toExt.tp, s1.output, s1.size, fun k hk => (s1.stay k hk (by simp)).1⟩
theorem cell_U0 {w : World} {b o : Nat} {v : Value} (h : w.cell? ⟨b, o, none⟩ = some v) : o < U0 w b := by
 unfold U0; simp only [World.cell?] at h
 split at h
 ·rename_i arr e fz hb; rw [hb]; simp only [Option.isSome_none, Bool.false_eq_true, if_false] at h; rcases Nat.lt_or_ge o arr.size with h1 | h1
  ·exact h1
  ·simp [Array.getElem?_eq_none h1] at h
 ·simp at h
end Go.Eng
namespace Go.Proofs.YtnpedjbgchdkbaaGreatDoor
open Go Go.Eng Go.RowKit
theorem extra156 : Builder.Extra Tryz.prog Tryz.lays156_ren where
 sizeBuilder := by kernel_rfl
 liesBuilder := by kernel_rfl
 t5 := Tryz.underlying5
 a5 := Tryz.isAgg5
 z5 := Tryz.sizeOf5
 v5 := Tryz.zeroValue5
 infoByte := by kernel_rfl
 cellsByte := by kernel_rfl
 sizeByte := by kernel_rfl
 neB5 := by decide
theorem strs_eq {U : Nat -> Nat} {w : World} : ∀ {l : List ByteArray} {es : List Value}, RepL U w (l.map Vah) es -> es = l.map Value.string
 | [], es, h => by simp only [Zr, RepL] at h; simp [h]
 | s :: l, es, h => by
  simp only [Zi, RepL] at h; obtain ⟨u, us, rfl, h1, h2⟩ := h; simp only [Vah, Rep] at h1; rw [strs_eq h2, h1.1]; rfl
theorem Vje : ∀ l : List ByteArray, Va0 (l.map Value.string) = l.map Value.string
 | [] => rfl
 | s :: l => by
  simp only [Zi, Va0, List.flatMap_cons]
  have := Vje l; simp only [Va0] at this; rw [this]; rfl
def joinB (xs : List ByteArray) (sep : ByteArray) : ByteArray := ⟨(Lib.join (xs.map (·.data.toList)) sep.data.toList).toArray⟩
theorem join_to (xs : List ByteArray) (sep : ByteArray) (h0 : 0 < xs.length) (hN : xs.length <= 140737488355328) (hlen : (joinB xs sep).size <= 140737488355328) : CallTo Tryz.prog 142 [jL (xs.map Vah), jS sep] [] [] (jS (joinB xs sep)) [] [] := by
 refine ⟨⟨Tryz.f142, Tryz.func142, by kernel_rfl, by kernel_rfl⟩, fun G w us hw hr _ _ => ?_⟩; obtain ⟨u, l, rfl, h1, h2⟩ := hr; obtain ⟨u2, l2, rfl, h3, h4⟩ := h2
 have h5 : l2 = [] := h4; subst h5; rw [h3.1]; simp only [RepS, Rep] at h1; obtain ⟨a, cap, es, sz, rfl, q1, q2, q3, q4, q5, q6⟩ := h1
 have he := strs_eq q1; subst he; rw [Vje] at q6; rw [Za] at q4 ⊢; rcases q6 with q6 | ⟨b, off, rfl, q7, q8⟩
 ·rw [List.map_eq_nil_iff] at q6; rw [q6] at h0; exact absurd h0 (by decide)
 have hbk : b < w.heap.size := by
  rcases Nat.lt_or_ge b w.heap.size with h | h
  ·exact h
  ·have := hw.zero b h; rw [Za] at q7; omega
 have hc : ∀ (j : Nat) x, xs[j]? = some x -> w.cell? ⟨b, off + j, none⟩ = some (.string x) := fun j x hx => (q8 j (.string x) (by rw [Zj, hx]; rfl)).1
 have hj := Any.strings_Join Tryz.lays156 extra156 b off cap xs sep w hc hbk hN q4 hlen; refine hj.mono ?_; rintro e w' ⟨rfl, hb⟩; obtain ⟨s1, s2, s3⟩ := Vm1 hw hb; exact ⟨_, G, rfl, s1, s2, ⟨rfl, rfl⟩, by simp, fun i _ => s3 _, fun _ _ => rfl, fun κ => rfl⟩
end Go.Proofs.YtnpedjbgchdkbaaGreatDoor
namespace Go.Eng
def Vfz (P : Program) (f : FuncId) (args : List SV) (nb : List (Nat × ABox)) (rs : List SV) : Prop :=
 Enterable P f /\ ∀ (G : Gh) (w : World) (vs : List Value), Wf G w -> RepSs G w args vs ->
  Calls P f vs.toArray w (fun e w' => ∃ us G', e = .returned (.tuple us.toArray) /\ Step G w G' w' /\ Wf G' w' /\ RepSs G' w' rs us /\ (∀ p ∈ nb, RepB G' w' p.1 p.2) /\
   (∀ κ : Key, (κ.1 ∉ nb.map (·.1) \/ κ.2 ≠ 0) -> Keep G w G' w' κ) /\ ∀ κ : Key, G'.gen κ = G.gen κ)
def Vqt (P : Program) (S : St) : List ResultVar -> Option (List SV)
 | [] => some []
 | r :: l => match Vog P S r, Vqt P S l with
  | some s, some xs => some (s :: xs)
  | _, _ => none
def EndsT (P : Program) (fn : Func) (rs : List SV) (bx' : List (Nat × ABox)) : Exit -> St -> Prop
 | .normal, S | .ret, S => Vqt P S fn.results.toList = some rs /\ fn.results.size ≠ 1 /\ ∀ p ∈ bx', S.bx.lookup p.1 = some p.2
 | _, _ => False
section
variable {P : Program}
theorem Vl8 {S : St} {G : Gh} {w : World} {a : Act} (hr : Rel G w S a) : ∀ {rs : List ResultVar} {l : List SV}, Vqt P S rs = some l -> ∃ vs, (rs.mapM (resRun a.tmps)).run P w = .ok vs w /\ RepSs G w l vs /\ vs.length = rs.length
 | [], l, h => by simp [Vqt] at h; subst h; exact ⟨[], by simp, rfl, rfl⟩
 | r :: rs, l, h => by
  simp only [Vqt] at h
  split at h
  ·rename_i s xs h1 h2; simp only [Option.some.injEq] at h; subst h; obtain ⟨v, e1, e2⟩ := Vd0 h1 hr; obtain ⟨vs, e3, e4, e5⟩ := Vl8 hr h2; exact ⟨v :: vs, by simp [List.mapM_cons, e1, e3], ⟨v, vs, rfl, e2, e4⟩, by simp [e5]⟩
  ·simp at h
theorem Viw {f : FuncId} {fn : Func} {c : Code} (hf : P.funcs[f]? = some fn) (hb : fn.body = some c) (hname : (fn.name == "runtime.NumGoroutine") = false) {args : List SV} {nb : List (Nat × ABox)} {rs : List SV} {n : Nat} (hn : fn.ntmps = n)
  (hle : args.length <= n) (hargs : ∀ s ∈ args, OkSV [] [] s) (hres : ∀ s ∈ rs, OkSV (nb.map (·.1)) [] s) (hbx' : ∀ p ∈ nb, ∀ s ∈ p.2.svs, OkSV (nb.map (·.1)) [] s)
  (h : W P c (EndsT P fn rs nb) ⟨args ++ List.replicate (n - args.length) .junk, [], []⟩) : Vfz P f args nb rs := by
 refine ⟨⟨fn, hf, by rw [hb]; rfl, hname⟩, ?_⟩; intro G w vs hw hr
 have hlv := hr.length
 let ids := nb.map (·.1)
 let mine : Key -> Prop := fun κ => κ.1 ∈ ids /\ κ.2 = 0
 have hdec : ∀ κ, mine κ \/ ¬ mine κ := fun κ => Classical.em _
 let G0 : Gh := { U := G.U, cp := G.cp, ow := fun _ => none, gen := fun _ => 0, df := [] }
 have hw0 : Wf G0 w := ⟨fun κ κ' b h1 h2 => by simp [G0] at h1, fun κ b h1 => by simp [G0] at h1, hw.zero⟩
 have hrel : Rel G0 w ⟨args ++ List.replicate (n - args.length) .junk, [], []⟩ { tmps := vs.toArray ++ Array.replicate (fn.ntmps - vs.toArray.size) undef, defers := [] } := by
  refine ⟨hw0, ?_, fun t s ht => ?_, fun p hp => by simp at hp, fun k => rfl, rfl⟩
  ·simp [hlv, hn]
  ·simp only at ht; rcases Nat.lt_or_ge t args.length with hlt | hge
   ·rw [Zn hlt] at ht
    have hr0 := Vbc (G := G) (G' := G0) (ids := []) (gn := []) rfl rfl (fun i hi => by simp at hi) (fun k g hl => by simp at hl) hargs hr; obtain ⟨u, h1, h2⟩ := hr0.get t s ht
    have : (vs.toArray ++ Array.replicate (fn.ntmps - vs.toArray.size) undef).getD t undef = u := by
     have hlt' : t < vs.length := by omega
     simp only [Array.getD_eq_getD_getElem?]; rw [Array.getElem?_append_left (by simpa using hlt')]; simp [h1]
    rw [this]; exact h2
   ·rw [List.getElem?_append_right hge, List.getElem?_replicate] at ht
    split at ht
    ·simp at ht; subst ht; trivial
    ·simp at ht
 refine calls_of_wp hf hb (Code.wp_mono (fun e a w' hl => ?_) (h G0 w _ hrel)); obtain ⟨S', G1, h1, h2, h3, h4⟩ := hl
 have done : Vqt P S' fn.results.toList = some rs /\ fn.results.size ≠ 1 /\ (∀ p ∈ nb, S'.bx.lookup p.1 = some p.2) -> a.defers = [] /\ ∃ v, (results fn a.tmps).run P w' = .ok v w' /\
   ∃ us G', Ending.returned v = .returned (.tuple us.toArray) /\ Step G w G' w' /\ Wf G' w' /\ RepSs G' w' rs us /\ (∀ p ∈ nb, RepB G' w' p.1 p.2) /\ (∀ κ : Key, (κ.1 ∉ nb.map (·.1) \/ κ.2 ≠ 0) -> Keep G w G' w' κ) /\ ∀ κ : Key, G'.gen κ = G.gen κ := by
  rintro ⟨g1, g0, g2⟩; obtain ⟨vs, e1, e2, e3⟩ := Vl8 h3 g1
  have e4 : (results fn a.tmps).run P w' = .ok (.tuple vs.toArray) w' := by
   rw [results_eq, Array.mapM_eq_mapM_toList]; simp only [Sem.run_bind, Sem.run_map, e1, Result.andThen_ok, Sem.run_pure]; rw [dif_neg (by simp only [List.size_toArray, e3, Array.length_toList]; exact g0)]
  let G' : Gh := { U := G1.U, cp := G1.cp, ow := fun κ => @ite _ (mine κ) (Classical.propDecidable _) (G1.ow κ) (G.ow κ), gen := G.gen, df := G.df }
  have hG' : ∀ κ : Key, mine κ -> G'.ow κ = G1.ow κ := fun κ hκ => by simp only [G']; rw [if_pos hκ]
  have hG'n : ∀ κ : Key, ¬ mine κ -> G'.ow κ = G.ow κ := fun κ hκ => by simp only [G']; rw [if_neg hκ]
  have hnot : ∀ κ b, G.ow κ = some b -> w'.heap[b]? = w.heap[b]? /\ G1.U b = G.U b := fun κ b hb =>
   h2.stay b (hw.lt κ b hb) (fun κ2 h' => by simp [G0] at h')
  have hnew : ∀ κ b, G1.ow κ = some b -> w.heap.size <= b := by
   intro κ b hb; rcases h2.rng κ b hb with ⟨κ', h'⟩ | h'
   ·simp [G0] at h'
   ·exact h'
  have hkeep : ∀ κ : Key, ¬ mine κ -> Keep G w G' w' κ := fun κ hκ => ⟨hG'n κ hκ, fun b hb => hnot κ b hb⟩
  have hid1 : ∀ i : Nat, i ∈ ids -> G'.ow (i, 0) = G1.ow (i, 0) := fun i hi => hG' (i, 0) ⟨hi, rfl⟩
  have how : ∀ κ b, G'.ow κ = some b -> (mine κ /\ G1.ow κ = some b) \/ (¬ mine κ /\ G.ow κ = some b) := by
   intro κ b hκ; rcases hdec κ with hm | hm
   ·rw [hG' κ hm] at hκ; exact .inl ⟨hm, hκ⟩
   ·rw [hG'n κ hm] at hκ; exact .inr ⟨hm, hκ⟩
  have hext : Ext G w G' w' := by
   refine ⟨h2.U, h2.imm, h2.size, h2.os, Prod.ext h2.toExt.tp rfl, h2.output, h2.cp, fun _ => Zk _, fun κ h0 hge => ?_⟩; exact hkeep κ (fun hm => by have := hm.2; omega)
  refine ⟨h3.defers.trans h2.toExt.df, _, e4, vs, G', rfl, ⟨hext, ?_, ?_⟩, ⟨?_, ?_, h3.wf.zero⟩, ?_, ?_, ?_, fun _ => rfl⟩
  ·intro b hb' hno; exact h2.stay b hb' (fun κ hκ => by simp [G0] at hκ)
  ·intro κ b hκ; rcases how κ b hκ with ⟨_, q⟩ | ⟨_, q⟩
   ·exact .inr (hnew κ b q)
   ·exact .inl ⟨κ, q⟩
  ·intro κ κ' b hκ hκ'; rcases how κ b hκ with ⟨m1, q1⟩ | ⟨m1, q1⟩ <;> rcases how κ' b hκ' with ⟨m2, q2⟩ | ⟨m2, q2⟩
   ·exact h3.wf.inj κ κ' b q1 q2
   ·have := hnew κ b q1; have := hw.lt κ' b q2; omega
   ·have := hnew κ' b q2; have := hw.lt κ b q1; omega
   ·exact hw.inj κ κ' b q1 q2
  ·intro κ b hκ; rcases how κ b hκ with ⟨_, q⟩ | ⟨_, q⟩
   ·exact h3.wf.lt κ b q
   ·have := hw.lt κ b q; have := h2.size; omega
  ·exact Vbc (G := G1) (G' := G') (ids := ids) (gn := []) rfl rfl hid1 (fun k g hl => by simp at hl) hres e2
  ·intro p hp
   have := h3.bx _ (Va9 (g2 p hp)); exact Vcn (G := G1) (G' := G') (ids := ids) (gn := []) rfl rfl hid1 (fun k g hl => by simp at hl) (List.mem_map_of_mem hp) (hbx' p hp) this
  ·intro κ hκ; exact hkeep κ (fun hm => by rcases hκ with q | q; exact q hm.1; exact q hm.2)
 cases e with
 | normal => exact done h1
 | ret => exact done h1
 | exit id => exact h1.elim
 | goto l => exact h1.elim
 | panic ch => exact h1.elim
 | outgrown => exact h1.elim
def WOT (P : Program) (ops : Array Oper) (l : List Oper) (Q : St -> Prop) (S : St) (d : Nat) (rs : List SV) : Prop :=
 ∀ (us : List Value) (more : List Oper) (Q' : Exit -> Act -> World -> Prop) (G : Gh) (w : World) (a : Act), Rel G w S a -> a.eval (.tmp d) = .tuple us.toArray -> RepSs G w rs us ->
  (∀ S' G' a' w', Q S' -> Step G w G' w' -> Rel G' w' S' a' -> (∀ i, Fx i -> G'.ow (i, 0) = G.ow (i, 0)) -> wpList P ops Q' more a' w') -> wpList P ops Q' (l ++ more) a w
theorem Vok {ops : Array Oper} {l : List Oper} {Q : St -> Prop} {S : St} {d : Nat} {rs : List SV} (h : WO P ops l Q S) : WOT P ops l Q S d rs := fun us more Q' G w a hr _ _ hq => h more Q' G w a hr hq
theorem WOT_mv {ops : Array Oper} {o : Oper} {rest : List Oper} {Q : St -> Prop} {S : St} {d : Nat} {rs : List SV} (d' : Nat) (ho : (o.op, o.guard, o.dst) = (.move (.tmp d), none, some d')) (hd : decide (d' < S.fr.length) = true) (h : WOT P ops rest Q (S.put (some d') .junk) d' rs) : WOT P ops (o :: rest) Q S d rs := by
 have hd := of_decide_eq_true hd; simp only [Zo] at ho; obtain ⟨h1, h2, h3⟩ := ho; intro us more Q' G w a hr he hu hq; simp only [List.cons_append, wpList]; rw [if_pos (Vao h2 a)]; refine .inl ?_
 have hx : (execOp a.eval o).run P w = .ok (.value (.tuple us.toArray)) w := by simp [execOp, h1, he]
 unfold Oper.wp; rw [hx, Oper.upon_value, h3]
 have hsz : d' < a.tmps.size := by have := hr.size; omega
 exact h us more Q' G w _ (hr.put (some d') trivial) (Nb_same hsz) hu hq
theorem Vfo {ops : Array Oper} {o : Oper} {rest : List Oper} {Q : St -> Prop} {S : St} {d : Nat} {rs : List SV} (i d' : Nat) (s : SV) (ho : (o.op, o.guard, o.dst) = (.extract (.tmp d) i, none, some d')) (hne : (d == d') = false) (hs : rs[i]? = some s) (h : WOT P ops rest Q (S.put (some d') s) d rs) : WOT P ops (o :: rest) Q S d rs := by
 simp only [Zo] at ho; obtain ⟨h1, h2, h3⟩ := ho; intro us more Q' G w a hr he hu hq; simp only [List.cons_append, wpList]; rw [if_pos (Vao h2 a)]; refine .inl ?_; obtain ⟨u, g1, g2⟩ := hu.get i s hs
 have hx : (execOp a.eval o).run P w = .ok (.value u) w := by simp [execOp, h1, he, g1, Instr.extract]
 unfold Oper.wp; rw [hx, Oper.upon_value, h3]; exact h us more Q' G w _ (hr.put (some d') g2) ((Nb_other (ne_of_beq_false hne)).trans he) hu hq
theorem WO_newT {ops : Array Oper} {o : Oper} {rest : List Oper} {Q : St -> Prop} {S : St} {x : Operand} {args : Array Operand} {tys : Array TypeId} {f : FuncId} {fs cs : List PV} {nb : List (Nat × ABox)} {rs : List SV} (d : Nat) (hg : (o.guard, o.dst) = (none, some d))
  (ho : o.op = .call { callee := .value x, args := args, argTypes := tys }) (hx : S.ev x = .fn f fs cs) (hc : Vfz P f (Vdb S fs args.toList cs false) nb rs) (hids : nb.all (fun p => decide (p.1 < 1000)) = true) (hn : nb.all (fun p => !S.names p.1) = true)
  (hd : decide (d < S.fr.length) = true) (h : WOT P ops rest Q (St.put { S with bx := nb ++ S.bx } (some d) .junk) d rs) : WO P ops (o :: rest) Q S := by
 have hd := of_decide_eq_true hd; simp only [Zo] at hg; intro more Q' G w a hr hq; simp only [List.cons_append, wpList]; rw [if_pos (Vao hg.1 a)]; refine .inl ?_; obtain ⟨⟨fn, hf1, hf2, hf3⟩, hcall⟩ := hc
 have h1 := hr.ev x; rw [hx] at h1; obtain ⟨vs, us, h2, h3, h4⟩ := h1
 have hargs := Vi5 hr h3 h4 args.toList false
 have hcall := hcall G w _ hr.wf hargs
 have hrun : (execOp a.eval o).run P w = .ok (.enter f (vs.toList ++ (args.toList.map a.eval ++ us.toList)).toArray) w := by
  have hnone : fn.body.isNone = false := by cases hb : fn.body <;> simp_all
  simp only [execOp, ho, resolve, h2, Deferred.ofValue, Sem.run_bind, Sem.run_pure, Result.andThen_ok, invoke, callFunc, run_program, hf1]; rw [if_neg (by rw [hf3]; simp)]; simp only [hnone, Bool.false_eq_true, if_false, Sem.run_pure]; congr 2; apply Array.ext'; simp
 unfold Oper.wp; rw [hrun, Oper.upon_enter]; refine hcall.mono ?_; rintro e w' ⟨us', G', rfl, s1, s2, s3, s4, s5, s6⟩
 have hrel := Rel_new hr s1.toExt s2 s5 s6 s4 hn; rw [hg.2]
 have hsz : d < a.tmps.size := by have := hr.size; omega
 refine h us' more Q' G' w' _ (hrel.put (some d) trivial) (Nb_same hsz) s3 (fun S' G2 a2 w2 p1 p2 p3 p4 => ?_); refine hq S' G2 a2 w2 p1 (s1.trans p2) p3 (fun i hi => (p4 i hi).trans ?_); refine (s5 (i, 0) (.inl fun hm => ?_)).1; simp only [List.mem_map] at hm; obtain ⟨p, hp, hpe⟩ := hm
 have := Zm.1 hids p hp; simp only [decide_eq_true_eq] at this
 have h5 : p.1 = i := hpe; omega
def KT (P : Program) (fn : Func) (rs : List SV) (nb : List (Nat × ABox)) (_ : Unit) : Exit -> St -> Prop := EndsT P fn rs nb
def okNewT (fn : Func) (args : List SV) (nb : List (Nat × ABox)) (rs : List SV) : Bool :=
 fn.body.isSome && !(fn.name == "runtime.NumGoroutine") && decide (args.length <= fn.ntmps) && args.all (okSb [] []) && rs.all (okSb (nb.map (·.1)) []) && okB (nb.map (·.1)) [] nb
theorem BEGnT {f : FuncId} {fn : Func} {args : List SV} {nb : List (Nat × ABox)} {rs : List SV} (hf : P.funcs[f]? = some fn) (hok : okNewT fn args nb rs = true)
  (h : Nx P (KT P fn rs nb) () (Vhd (Vbk fn) ⟨args ++ List.replicate (fn.ntmps - args.length) .junk, [], []⟩)) : Vfz P f args nb rs := by
 simp only [okNewT, Bool.and_eq_true, decide_eq_true_eq, Bool.not_eq_true'] at hok; obtain ⟨⟨⟨⟨⟨h1, h2⟩, h3⟩, h4⟩, h5⟩, h6⟩ := hok; obtain ⟨c, hb⟩ := Option.isSome_iff_exists.1 h1
 have e : Vbk fn = c := by simp [Vbk, hb]
 refine Viw hf hb h2 rfl h3 (fun s hs => Ved (Zm.1 h4 s hs)) (fun s hs => Ved (Zm.1 h5 s hs)) (Vm7 h6) ?_; rw [<- e]; exact h.x
def endT (P : Program) (fn : Func) (X : Cf) : Option (List SV) := match X with
 | some (_, _, .fin .ret S) => Vqt P S fn.results.toList
 | some (_, _, .fin .normal S) => Vqt P S fn.results.toList
 | _ => none
theorem ENT {fn : Func} {rs : List SV} {nb : List (Nat × ABox)} {M : Unit} {X : Cf} (h : endT P fn X = some rs) (h1 : (fn.results.size == 1) = false) (hb : nb.map (fun p => (stOf X).bx.lookup p.1) = nb.map (fun p => some p.2)) : Nx P (KT P fn rs nb) M X := by
 have hb' : ∀ p ∈ nb, (stOf X).bx.lookup p.1 = some p.2 := fun p hp => List.map_inj_left.1 hb p hp
 have h1 := ne_of_beq_false h1; unfold endT at h
 split at h
 ·exact ⟨⟨h, h1, hb'⟩⟩
 ·exact ⟨⟨h, h1, hb'⟩⟩
 ·simp at h
theorem Vlp {o : Oper} {S : St} {t e : TypeId} {n : Nat} {parts : Array (Nat × Operand)} {sz bt : Nat} {z : Value} {ps : List AV} (ho : o.op = .buildSlice t n parts) (ht : tElem P t = some e) (hi : tInfo P e = some (sz, bt, some z))
  (hidx : parts.toList.map (·.1) = List.range n) (hp : Vch S (parts.toList.map (·.2)) = some ps) (hu : Uni sz ps) (hsz : n * sz <= 16777216) {id : Nat} (hid : id < 1000) (hnm : S.names id = false) : Sound P o S ⟨True, .vs id n, S.addBox id (.vec e sz ps)⟩ := by
 intro _ G w a hr
 have h1 := Vem hr hp; generalize hes : (parts.toList.map (·.2)).map a.eval = es at h1
 have h2 := hu.sizes h1
 have h3 := h1.cells hu
 have hlen : es.length = n := by
  have := congrArg List.length hidx; simp at this; rw [<- hes]; simp [this]
 have hpart : (parts.map fun (x : Nat × Operand) => (x.1, a.eval x.2)).toList = (es.zipIdx 0).map (fun p => (p.2, p.1)) := by
  rw [<- hes]; apply List.ext_getElem?; intro i
  have hi' : (parts.toList.map (·.1))[i]? = (List.range n)[i]? := by rw [hidx]
  simp only [Array.toList_map, Zj, List.getElem?_zipIdx, List.map_map] at hi' ⊢; cases hp : parts.toList[i]? with
  | none => simp
  | some q =>
   simp only [hp, Option.map_some] at hi'
   have hlt : i < (List.range n).length := by
    rcases Nat.lt_or_ge i (List.range n).length with h | h
    ·exact h
    ·simp [List.getElem?_eq_none h] at hi'
   rw [Zb hlt] at hi'; simp at hi'; simp [hi']
 have ht' : P.underlying t = some (.slice e) := by
  unfold tElem at ht; split at ht
  ·rename_i hh; simp at ht; subst ht; exact hh
  ·simp at ht
 have key : ∀ us : Array Value, us.size = n * sz -> Instr.fill (fun i => some (i * sz, sz)) us ((es.zipIdx 0).map (fun p => (p.2, p.1))) = some (Va0 es).toArray := by
  intro us hus; obtain ⟨us', f1, f2⟩ := Vo3 sz es 0 us [] us.toList (by simp) (by simp) h2 (by rw [hlen]; simpa using hus); rw [f1]; simp only [List.nil_append] at f2; rw [<- f2]
 have hvl : (Va0 es).length = n * sz := by rw [Va3 es h2, hlen]
 obtain ⟨s1, s2, s3⟩ := Vjl hr.wf (.cells (Va0 es ++ []).toArray e) id n
 have hr1 := hr.but hnm s1.toExt s2 s3 rfl
 have hbx : RepB (G.bindc id w.heap.size n) (w.alloc (.cells (Va0 es ++ []).toArray e)) id (.vec e sz ps) := by
  refine .inr ⟨w.heap.size, _, es, by simp, by simp [Gh.bindc], heap_alloc_new w _, ?_, ?_, RepL.mono s1.U s1.imm _ _ h1, h2, ⟨[], by simp⟩, h3⟩
  ·exact hr.wf.zero _ (Zk _)
  ·simp [Gh.bindc, hvl]
 refine ⟨_, .slice (some ⟨w.heap.size, 0, none⟩) n n, w.alloc (.cells (Va0 es ++ []).toArray e), G.bindc id w.heap.size n, ?_, .inl rfl, s1, hr1.add hbx, .inr ⟨w.heap.size, by simp, by simp [Gh.bindc], by simp [Gh.bindc], by simp [Gh.bindc]⟩, fun j hj => ?_⟩
 ·have hle : ¬ n * sz > 2 ^ 24 := by omega
  by_cases h0 : n * sz = 0
  ·simp only [execOp, ho, Instr.buildSlice, Sem.run_bind, run_underlying' ht', Result.andThen_ok, run_sizeOf' hi, if_neg hle, if_pos h0, Sem.run_pure, hpart, key _ (show ((Array.range (n * sz)).map (fun i => (#[] : Array Value)[i % (#[] : Array Value).size]!)).size = n * sz by simp)]; simp [newRow]
  ·simp only [execOp, ho, Instr.buildSlice, Sem.run_bind, run_underlying' ht', Result.andThen_ok, run_sizeOf' hi, if_neg hle, if_neg h0, Sem.run_pure, Val hi, hpart, key _ (show ((Array.range (n * sz)).map (fun i => z.cells[i % z.cells.size]!)).size = n * sz by simp)]; simp [newRow]
 ·simp only [Gh.bindc]; rw [if_neg (by intro h; simp only [Zo] at h; omega)]
theorem sound_field {o : Oper} {S : St} {s f off : Nat} {ft : TypeId} {x : Operand} {l : List AV} {y : AV} (ho : o.op = .field s x f) (hx : S.ev x = .av (.agg l)) (h : tField P s f = some (off, ft)) (ha : tAgg P ft = some false) (hy : l[off]? = some y) : Sound P o S ⟨True, .av y, S⟩ :=
 Sound.still fun _ G w a hr => by
  have h1 := hr.ev x; rw [hx] at h1; simp only [RepS, Rep] at h1; obtain ⟨us, h2, h3, _⟩ := h1; obtain ⟨u, h4, h5⟩ := h3.get off y hy
  have h6 : us[off]? = some u := by simpa using h4
  unfold tField at h
  split at h
  ·rename_i fs hu; simp only [Option.map_eq_some_iff] at h; obtain ⟨fd, hf, h7⟩ := h; simp only [Zo] at h7; obtain ⟨rfl, rfl⟩ := h7; exact ⟨u, by simp [execOp, ho, Instr.field, run_underlying' hu, hf, h2, asAgg, part, Vbz ha, h6], h5⟩
  ·simp at h
theorem wanted_is {ops : Array Oper} {o : Oper} {S : St} {j : Nat} {want b : Bool} {t : Nat} (hg : o.guard = some (j, want)) (ht : ((ops.toList.map (·.dst))[j]?).join = some t) (hs : S.fr[t]? = some (.av (.val (.bool b)))) (hb : b = want) {G : Gh} {w : World} {a : Act} (hr : Rel G w S a) : Region.wanted o (yielded ops a.tmps) = true := by
 obtain ⟨t', u, e1, e2, e3⟩ := Vb7 (S := S) (j := j) (s := .av (.val (.bool b))) (by unfold Vcc; rw [ht]; exact hs) hr; simp only [RepS, Rep] at e3; obtain ⟨rfl, _⟩ := e3; subst hb; simp only [Region.wanted, hg, yielded, e1, Option.bind_some, e2]; simp
theorem WO_soundG {ops : Array Oper} {o : Oper} {rest : List Oper} {Q : St -> Prop} {S : St} {j : Nat} {want b : Bool} {t : Nat} (v : SV) (d : Nat) (hg : (o.guard, o.dst) = (some (j, want), some d)) (ht : ((ops.toList.map (·.dst))[j]?).join = some t) (hs' : S.fr[t]? = some (.av (.val (.bool b)))) (hb : b = want)
  (hs : Sound P o S ⟨True, v, S⟩) (h : WO P ops rest Q (S.put (some d) v)) : WO P ops (o :: rest) Q S := by
 simp only [Zo] at hg; refine WO_op (fun G w a hr => wanted_is hg.1 ht hs' hb hr) (fun G w a hr Q' next hn => ?_) h; obtain ⟨nx, v', w', G', h1, h2, h3, h4, h5, h6⟩ := hs trivial G w a hr; unfold Oper.wp; rw [h1]; rcases h2 with rfl | ⟨rfl, rfl⟩
 ·rw [Oper.upon_value, hg.2]; exact hn G' _ w' h3 (h4.put (some d) h5) h6
 ·rw [Oper.upon_skip, hg.2]; exact hn G' _ w' h3 (h4.put (some d) h5) h6
end
end Go.Eng
namespace Go.Proofs.YtnpedjbgchdkbaaGreatDoor
open Go Go.Eng
theorem eqs_ne {s : ByteArray} (h : 0 < s.size) : eqs s ⟨#[]⟩ = false := by
 cases he : eqs s ⟨#[]⟩ with
 | false => rfl
 | true =>
  have e := beq_iff_eq.1 he
  have e2 : s.size = 0 := by
   have : s.size = s.data.toList.length := by simp
   rw [this, e]; rfl
  rw [e2] at h; exact absurd h (by decide)
theorem source_to (t : ByteArray) (h : 0 < t.size) : CallTo Tryz.prog 89 [jS t] [] [] (jL [Va8 (txI t)]) [] [] := by
 have he := eqs_ne h; refine bG Tryz.func89 ?_; refine gO (tn 3 (kb he (tn 2 (kp (uniI (txI t)) (tn 1 z))))) ?_; exact eN
theorem head_to (c d : Nat) (hd : d < 17) : CallTo Tryz.prog 97 [jS (lnB c), jS (lnB d)] [] [] (jB false) [] [] := by
 have ha := alg_to d hd; refine bG Tryz.func97 ?_; refine gO (tn 2 (kc ha (tn 7 (kb (b := false) (d := false) rfl (kb (b := false) (d := false) rfl (kb (b := false) (d := false) rfl (kb (b := false) (d := false) rfl (kb (b := false) (d := false) rfl (kb (b := false) (d := false) rfl (kb (b := false) (d := false) rfl (tn 1 z))))))))))) ?_; exact eN
def lsA (cs : List Nat) : List AV := cs.map (fun c => Vah (lnB c))
theorem Vls {cs : List Nat} {v : Nat} (h : v < cs.length) : 0 <= ((v : Nat) : Int) /\ (lsA cs)[((v : Nat) : Int).toNat]? = some (vS (lnB (el cs v))) := by
 refine ⟨by omega, ?_⟩; rw [Int.toNat_natCast, lsA, Zj, Zb h]; simp [el, h, Vah]
theorem Vf9 (cs : List Nat) : (lsA cs).length = cs.length := by simp [lsA]
def paT (u : List Nat) : ByteArray := ⟨(pT u).toArray⟩
def paB (u : List Nat) : DBlock := ⟨1, 0, e0, e0, e0, e0, ⟨e0, [], []⟩, [txI (paT u)], []⟩
def bkZ : List SV := [jI 0, jI 0, jS ⟨#[]⟩, jS ⟨#[]⟩, jS ⟨#[]⟩, jS ⟨#[]⟩, jS ⟨#[]⟩, .nil, .nil, .nil, .nil]
def paS (cs : List Nat) (i v : Nat) (os : List AV) : St := sx 61 [(0, jL (lsA cs)), (4, .ptr 4 0), (6, .vs 13 v), (7, jI ((i + v : Nat) : Int))] [(4, .cells 36 bkZ), (13, .vec 9 1 os)] []
theorem pa1 (cs : List Nat) (i : Nat) (hi : i < cs.length) (hc : el cs i < 17) : W Tryz.prog (.region 1 (Vab 1 Tryz.f99) false) (fun e S1 => e = .normal /\ Weak S1 (sx 61 [(0, jL (lsA cs)), (1, jI ((i : Nat) : Int)), (4, .ptr 4 0), (6, .vs 13 1)] [(4, .cells 36 bkZ), (13, .vec 9 1 [vS (lnB (el cs i))])] [])) (sx 61 [(0, jL (lsA cs)), (1, jI ((i : Nat) : Int)), (4, .ptr 4 0)] [(4, .cells 36 bkZ)] []) := by
 have he := Vls hi
 have ht := tri_to (el cs i) hc; refine Vak ?_; rw [show (Vab 1 Tryz.f99).toList = [regO 1 Tryz.f99 0, regO 1 Tryz.f99 1, regO 1 Tryz.f99 2, regO 1 Tryz.f99 3, regO 1 Tryz.f99 4, regO 1 Tryz.f99 5, regO 1 Tryz.f99 6] by kernel_rfl]; refine Vfy (S' := sx 61 [(0, jL (lsA cs)), (1, jI ((i : Nat) : Int)), (4, .ptr 4 0), (12, jS (lnB (el cs i)))] [(4, .cells 36 bkZ)] []) 5 ?_ ?_
 ·exact Vfn (cs := [True, True, _, True, _, True]) [eO he, cO ht] 61 [(0, jL (lsA cs)), (1, jI ((i : Nat) : Int)), (4, .ptr 4 0), (12, jS (lnB (el cs i)))] [(4, .cells 36 bkZ)] [] ⟨trivial, trivial, he, trivial, ht, trivial, trivial⟩ (by kernel_rfl) (WK (by kernel_rfl))
 refine Vim (.vs 13 1) 13 (by kernel_rfl) (Vlp (P := Tryz.prog) (t := 27) (e := 9) (n := 1) (parts := #[(0, .tmp 12)]) (sz := 1) (bt := 16) (z := .string ⟨#[]⟩) (ps := [vS (lnB (el cs i))]) (id := 13) (by kernel_rfl) (by kernel_rfl) (by kernel_rfl) (by kernel_rfl) (by kernel_rfl) (uni1 rfl rfl) (by decide) (by decide) (by kernel_rfl)) ?_; refine Vap (.vs 13 1) 6 (by kernel_rfl) (by kernel_rfl) ?_; exact Vbw rfl ⟨rfl, WK (by kernel_rfl)⟩
theorem Vo5 {α : Type} [Inhabited α] (l : List α) (i v : Nat) : el (l.drop i) v = el l (i + v) := by unfold el; rw [List.getElem?_drop]
theorem el_left {α : Type} [Inhabited α] (a b : List α) (v : Nat) (h : v < a.length) : el (a ++ b) v = el a v := by unfold el; rw [Zn h]
theorem el_at {α : Type} [Inhabited α] (a b : List α) (x : α) : el (a ++ x :: b) a.length = x := by unfold el; simp
theorem Vbt {α : Type} [Inhabited α] {l : List α} {v : Nat} (h : v < l.length) : el l v ∈ l := by
 unfold el; rw [Zb h]; exact List.getElem_mem h
theorem join_pT : ∀ u : List Nat, (∀ c ∈ u, c < 16) -> Lib.join (u.map (fun c => (lnB c).data.toList)) [10] = pT u
 | [], _ => rfl
 | [c], h => by
  have hc := h c (by simp); simp [Lib.join, List.intercalate, lnB, lnL, hc, pT]
 | c :: d :: u, h => by
  have ih := join_pT (d :: u) (fun x hx => h x (by simp at hx ⊢; right; exact hx))
  have hc := h c (by simp)
  have e : (lnB c).data.toList = wL c := by simp [lnB, lnL, hc]
  have e2 : pT (c :: d :: u) = wL c ++ 10 :: pT (d :: u) := rfl; rw [e2, <- ih, <- e]; simp [Lib.join, List.intercalate]
theorem paT_join (u : List Nat) (h : ∀ c ∈ u, c < 16) : joinB (u.map lnB) ⟨#[10]⟩ = paT u := by
 unfold joinB paT; rw [List.map_map, <- join_pT u h]; rfl
noncomputable def pr3o (k : Nat) : Oper := regO 3 Tryz.f99 k
theorem pr3 (cs : List Nat) (i v : Nat) (os : List AV) (h : i + v < cs.length) (hc : el cs (i + v) < 17) : W Tryz.prog (.region 3 (Vab 3 Tryz.f99) false) (fun e S1 => e = .normal /\ Weak S1 (sx 61 [(0, jL (lsA cs)), (4, .ptr 4 0), (6, .vs 13 v), (7, jI ((i + v : Nat) : Int)), (28, jB ((if el cs (i + v) < 16 then 0 else 1 : Int) == 0))] [(4, .cells 36 bkZ), (13, .vec 9 1 os)] [])) (paS cs i v os) := by
 have hlq := Vf9 cs
 have hd1 : decide (((i + v : Nat) : Int) < (((lsA cs).length : Nat) : Int)) = true := dT (by omega)
 have he := Vls h
 have hm := of_to _ hc; refine Vak ?_; rw [show (Vab 3 Tryz.f99).toList = [pr3o 0, pr3o 1, pr3o 2, pr3o 3, pr3o 4, pr3o 5, pr3o 6, pr3o 7, pr3o 8, pr3o 9, pr3o 10, pr3o 11, pr3o 12] by kernel_rfl]; refine Vfy (S' := sx 61 [(0, jL (lsA cs)), (4, .ptr 4 0), (6, .vs 13 v), (7, jI ((i + v : Nat) : Int)), (20, jB (decide (((i + v : Nat) : Int) < (((lsA cs).length : Nat) : Int)))), (25, .av (mkA (el cs (i + v))))] [(4, .cells 36 bkZ), (13, .vec 9 1 os)] []) 10 ?_ ?_
 ·exact Vfn (cs := [True, True, True, True, True, _, True, _, True, _, _, _, True, _, _, True]) [.b true, .b true, .b true, eO he, .b true, .b true, cO hm] 61 [(0, jL (lsA cs)), (4, .ptr 4 0), (6, .vs 13 v), (7, jI ((i + v : Nat) : Int)), (20, jB (decide (((i + v : Nat) : Int) < (((lsA cs).length : Nat) : Int)))), (25, .av (mkA (el cs (i + v))))] [(4, .cells 36 bkZ), (13, .vec 9 1 os)] [] ⟨trivial, trivial, trivial, trivial, trivial, hd1, trivial, hd1, trivial, hd1, he, hd1, trivial, hd1, hm, trivial, trivial⟩ (by kernel_rfl) (WK (by kernel_rfl))
 refine WO_soundG (j := 4) (t := 20) (S := sx 61 [(0, jL (lsA cs)), (4, .ptr 4 0), (6, .vs 13 v), (7, jI ((i + v : Nat) : Int)), (20, jB (decide (((i + v : Nat) : Int) < (((lsA cs).length : Nat) : Int)))), (25, .av (mkA (el cs (i + v))))] [(4, .cells 36 bkZ), (13, .vec 9 1 os)] []) (jI (if el cs (i + v) < 16 then 0 else 1)) 26 (by kernel_rfl) (by kernel_rfl) (by kernel_rfl) hd1 (sound_field (s := 124) (f := 0) (off := 0) (ft := 3) (x := .tmp 25) (l := mkL (el cs (i + v))) (by kernel_rfl) (by kernel_rfl) (by kernel_rfl) (by kernel_rfl) (by kernel_rfl)) ?_; exact Vfn (cs := [_, True, _]) [.b true, .b true] 61 [(0, jL (lsA cs)), (4, .ptr 4 0), (6, .vs 13 v), (7, jI ((i + v : Nat) : Int)), (28, jB ((if el cs (i + v) < 16 then 0 else 1 : Int) == 0))] [(4, .cells 36 bkZ), (13, .vec 9 1 os)] [] ⟨hd1, trivial, hd1, trivial⟩ (by kernel_rfl) ⟨rfl, WK (by kernel_rfl)⟩
theorem para_to (cs u rest : List Nat) (i : Nat) (hd : cs.drop i = u ++ rest) (h0 : 0 < u.length) (hu : ∀ c ∈ u, c < 16) (hr : rest = [] \/ ∃ q, rest = 16 :: q) (hcs : ∀ c ∈ cs, c < 17) (hl : cs.length <= 16384) :
  CallTo Tryz.prog 99 [jL (lsA cs), jI ((i : Nat) : Int)] [] [] (.av (.tup [Vev (paB u), vI ((i + u.length : Nat) : Int)])) [] [] := by
 have hdl : cs.length - i = u.length + rest.length := by rw [<- List.length_drop, hd, Zc]
 have hlq := Vf9 cs
 have hcl : ∀ v, v < cs.length -> el cs v < 17 := fun v hv => hcs _ (Vbt hv)
 have hul : ∀ v, v < u.length -> el cs (i + v) = el u v := fun v hv => by rw [<- Vo5, hd, el_left _ _ _ hv]
 refine bG Tryz.func99 ?_; refine gO (tn 2 (kq 1 z)) ?_; refine NXW (sx 61 [(0, jL (lsA cs)), (1, jI ((i : Nat) : Int)), (4, .ptr 4 0), (6, .vs 13 1)] [(4, .cells 36 bkZ), (13, .vec 9 1 [vS (lnB (el cs i))])] []) (tn 1 (kn (wrE (((i : Nat) : Int) + 1) ((i + 1 : Nat) : Int) (by omega)) (tn 1 z))) (by kernel_rfl) ?_ (by kernel_rfl) ?_
 ·refine Vb6 (S' := sx 61 [(0, jL (lsA cs)), (1, jI ((i : Nat) : Int)), (4, .ptr 4 0)] [(4, .cells 36 bkZ)] []) (WK (by kernel_rfl)) ?_; exact Vbh (c' := .region 1 (Vab 1 Tryz.f99) false) (by kernel_rfl) (pa1 cs i (by omega) (hcl i (by omega)))
 have e1 : [vS (lnB (el cs i))] = (u.take 1).map (fun c => Vah (lnB c)) := by
  obtain ⟨c, q, rfl⟩ : ∃ c q, u = c :: q := List.exists_cons_of_length_pos h0
  have := hul 0 h0; rw [Nat.add_zero] at this; rw [this]; rfl
 refine LP (n := u.length + 1) (fun N M S => ∃ (v : Nat) (os : List AV), 1 <= v /\ v <= u.length /\ os = (u.take v).map (fun c => Vah (lnB c)) /\ u.length - v < N /\ M = () /\ S = paS cs i v os) (by kernel_rfl) ⟨1, [vS (lnB (el cs i))], by omega, h0, e1, by omega, rfl, rfl⟩ (WK (by kernel_rfl)) ?_; rintro n0 M S ⟨v, os, hv1, hv, hos, hF0, rfl, rfl⟩; obtain ⟨n0, rfl⟩ : ∃ k, n0 = k + 1 := ⟨n0 - 1, by omega⟩
 have hol : os.length = v := by rw [hos, Za, Zl]; omega
 by_cases h1 : v < u.length
 ·have hd1 : decide (((i + v : Nat) : Int) < (((lsA cs).length : Nat) : Int)) = true := dT (by omega)
  have he := Vls (cs := cs) (v := i + v) (by omega)
  have hm := of_to (el cs (i + v)) (hcl _ (by omega))
  have hk : ((if el cs (i + v) < 16 then 0 else 1 : Int) == 0) = true := by
   rw [hul v h1, if_pos (hu _ (Vbt h1))]; rfl
  have w1 := wrE (((i + v : Nat) : Int) + 1) ((i + v + 1 : Nat) : Int) (by omega)
  have w2 := wrE (((i + v : Nat) : Int) + 1) ((i + (v + 1) : Nat) : Int) (by omega)
  have ht := tri_to (el cs (i + v)) (hcl _ (by omega))
  have hap : v <= os.length /\ Uni 1 [vS (lnB (el cs (i + v)))] /\ (v + ([vS (lnB (el cs (i + v)))] : List AV).length) * 16 <= 140737488355328 := ⟨by omega, uni1 rfl rfl, by simp; omega⟩
  have hu1 : Uni 1 [vS (lnB (el cs (i + v)))] := uni1 rfl rfl
  have hst : os.take v ++ [vS (lnB (el cs (i + v)))] = (u.take (v + 1)).map (fun c => Vah (lnB c)) := by
   rw [Zh (by omega), hos, Zq h1, Zp, hul v h1]; simp [el, h1, Vah]
  refine gO (kq 3 z) ?_; refine NXW (sx 61 [(0, jL (lsA cs)), (4, .ptr 4 0), (6, .vs 13 v), (7, jI ((i + v : Nat) : Int)), (28, jB ((if el cs (i + v) < 16 then 0 else 1 : Int) == 0))] [(4, .cells 36 bkZ), (13, .vec 9 1 os)] []) (kb hk z) (by kernel_rfl) ?_ (by kernel_rfl) ?_
  ·refine Vb6 (S' := paS cs i v os) (WK (by kernel_rfl)) ?_; exact Vbh (c' := .region 3 (Vab 3 Tryz.f99) false) (by kernel_rfl) (pr3 cs i v os (by omega) (hcl _ (by omega)))
  by_cases h2 : i + v + 1 < cs.length
  ·have hd2 : decide (((i + v + 1 : Nat) : Int) < (((lsA cs).length : Nat) : Int)) = true := dT (by omega)
   have he2 := Vls (cs := cs) (v := i + v + 1) h2
   have hh := head_to (el cs (i + v)) (el cs (i + v + 1)) (hcl _ h2); refine DR3 (ko (nO w1) (tn 1 (kp w1 (ko (.b true) (tn 4 (kp hd2 (ko (.b true) (tn 1 (kp hd2 (ko (.b true) (tn 1 (kp hd2 (ko (eO he) (kp he (ko (.b true) (kp hd2 (ko (.b true) (tn 1 (kp hd2 (ko (.b true) (tn 1 (kp hd2 (ko (.b true) (tn 1 (kp hd2 (ko (nO w1) (kp w1 (ko (.b true) (kp hd2 (ko (eO he2) (kp he2 (ko (.b true) (kp hd2 (ko (.b true) (tn 1 (kp hd2 (ko (cO hh) (kp hh (ko (.b true) (tn 1 (kp hd2 (kb (b := false) (d := false) rfl (tn 3 (ke he (tn 1 (kc ht (kp hu1 (kp hap (tn 2 (kn w2 (tn 1 z))))))))))))))))))))))))))))))))))))))))))))))))))) (by kernel_rfl) (by kernel_rfl) (by kernel_rfl) ?_; exact AG (m := n0) (S'' := paS cs i (v + 1) (os.take v ++ [vS (lnB (el cs (i + v)))])) ⟨v + 1, _, by omega, by omega, hst, by omega, rfl, rfl⟩ (WK (by kernel_rfl)) (by kernel_rfl) (Zd _)
  ·have hd2 : decide (((i + v + 1 : Nat) : Int) < (((lsA cs).length : Nat) : Int)) = false := dF (by omega); refine DR3 (ko (nO w1) (tn 1 (kp w1 (ko (.b false) (tn 4 (kp hd2 (ko (.b false) (kp hd2 (ko (.b false) (kp hd2 (ko (.b false) (kp hd2 (ko (.b false) (kp hd2 (ko (.b false) (kp hd2 (ko (.b false) (kp hd2 (ko (.b false) (kp hd2 (ko (.b false) (kp hd2 (ko (.b false) (kp hd2 (ko (.b false) (kp hd2 (kb (b := false) (d := false) rfl (tn 3 (ke he (tn 1 (kc ht (kp hu1 (kp hap (tn 2 (kn w2 (tn 1 z)))))))))))))))))))))))))))))))))))) (by kernel_rfl) (by kernel_rfl) (by kernel_rfl) ?_; exact AG (m := n0) (S'' := paS cs i (v + 1) (os.take v ++ [vS (lnB (el cs (i + v)))])) ⟨v + 1, _, by omega, by omega, hst, by omega, rfl, rfl⟩ (WK (by kernel_rfl)) (by kernel_rfl) (Zd _)
 ·have hvu : v = u.length := by omega
  subst hvu
  have hjs : (joinB (u.map lnB) ⟨#[10]⟩).size <= 140737488355328 := by
   rw [paT_join u hu]
   have := pT_len u
   show (pT u).length <= _; omega
  have hj := join_to (u.map lnB) ⟨#[10]⟩ (by simpa using h0) (by simp; omega) hjs; rw [paT_join u hu] at hj
  have hp0 : 0 < (paT u).size := by
   obtain ⟨c, q, rfl⟩ : ∃ c q, u = c :: q := List.exists_cons_of_length_pos h0; obtain ⟨w, hw⟩ := Vnp c q
   show 0 < (pT (c :: q)).length; rw [hw]; simp
  have hs := source_to (paT u) hp0
  have hfz : os.take u.length = (u.map lnB).map Vah := by
   rw [Zh (by omega), hos, List.take_length, List.map_map]; rfl
  rcases hr with rfl | ⟨q, rfl⟩
  ·have hd1 : decide (((i + u.length : Nat) : Int) < (((lsA cs).length : Nat) : Int)) = false := dF (by simp at hdl; omega); refine gO (tn 5 (kb hd1 (kb hd1 (kb hd1 (kb hd1 (kb hd1 (kb hd1 (kb hd1 (kb hd1 (kb (b := false) (d := false) rfl z)))))))))) ?_; refine OUT (kq 7 z) (by kernel_rfl) ?_; refine FRZ 6 13 (n := u.length) (l := os) (l' := (u.map lnB).map Vah) (by kernel_rfl) (by omega) hfz ?_; refine gO (tn 1 (kc hj (kc hs (tn 4 z)))) ?_; exact eN
  ·have hlt : i + u.length < cs.length := by simp at hdl; omega
   have h16 : el cs (i + u.length) = 16 := by rw [<- Vo5, hd, el_at]
   have hk : ((if el cs (i + u.length) < 16 then 0 else 1 : Int) == 0) = false := by rw [h16]; rfl
   refine gO (kq 3 z) ?_; refine NXW (sx 61 [(0, jL (lsA cs)), (4, .ptr 4 0), (6, .vs 13 u.length), (7, jI ((i + u.length : Nat) : Int)), (28, jB ((if el cs (i + u.length) < 16 then 0 else 1 : Int) == 0))] [(4, .cells 36 bkZ), (13, .vec 9 1 os)] []) (kb hk z) (by kernel_rfl) ?_ (by kernel_rfl) ?_
   ·refine Vb6 (S' := paS cs i u.length os) (WK (by kernel_rfl)) ?_; exact Vbh (c' := .region 3 (Vab 3 Tryz.f99) false) (by kernel_rfl) (pr3 cs i u.length os hlt (hcl _ hlt))
   refine OUT (kq 7 z) (by kernel_rfl) ?_; refine FRZ 6 13 (n := u.length) (l := os) (l' := (u.map lnB).map Vah) (by kernel_rfl) (by omega) hfz ?_; refine gO (tn 1 (kc hj (kc hs (tn 4 z)))) ?_; exact eN
def mk0 (c : Nat) : AV := .agg [vI 0, vI 0, vS ⟨#[]⟩, vI 0, vS ⟨#[]⟩, vS (lnB c), vS ⟨#[]⟩, vS ⟨#[]⟩, vS ⟨#[]⟩, .sl [], .sl []]
theorem mk0_eq {c : Nat} (h : c < 16) : mkA c = mk0 c := by unfold mkA mkL mk0; rw [if_pos h]
theorem blk_to (cs u rest : List Nat) (i c : Nat) (hd : cs.drop i = u ++ rest) (h0 : 0 < u.length) (hu : ∀ c ∈ u, c < 16) (hr : rest = [] \/ ∃ q, rest = 16 :: q) (hcs : ∀ c ∈ cs, c < 17) (hl : cs.length <= 16384) :
  CallTo Tryz.prog 64 [jL (lsA cs), jI ((i : Nat) : Int), .av (mk0 c), jI 0] [] [] (.av (.tup [Vev (paB u), vI ((i + u.length : Nat) : Int), vI 0])) [] [] := by
 have hdl : cs.length - i = u.length + rest.length := by rw [<- List.length_drop, hd, Zc]
 have hlq := Vf9 cs
 have hcl : ∀ v, v < cs.length -> el cs v < 17 := fun v hv => hcs _ (Vbt hv)
 have hp := para_to cs u rest i hd h0 hu hr hcs hl
 have w1 := wrE (((i : Nat) : Int) + 1) ((i + 1 : Nat) : Int) (by omega)
 have he := Vls (cs := cs) (v := i) (by omega); refine bG Tryz.func64 ?_; refine gO (tn 8 (kb (b := false) (d := false) rfl (tn 2 (kb (b := false) (d := false) rfl (tn 2 (kb (b := false) (d := false) rfl (tn 2 (kb (b := false) (d := false) rfl (tn 2 (kb (b := false) (d := false) rfl (tn 2 (kb (b := false) (d := false) rfl (tn 2 (kb (b := false) (d := false) rfl (tn 2 (kb (b := false) (d := false) rfl (tn 2 (kb (b := false) (d := false) rfl (tn 2 (kb (b := false) (d := false) rfl z)))))))))))))))))))) ?_
 by_cases h2 : i + 1 < cs.length
 ·have hd2 : decide (((i + 1 : Nat) : Int) < (((lsA cs).length : Nat) : Int)) = true := dT (by omega)
  have he2 := Vls (cs := cs) (v := i + 1) h2
  have hh := head_to (el cs i) (el cs (i + 1)) (hcl _ h2); refine DR3 (ko (nO w1) (tn 1 (kp w1 (ko (.b true) (tn 4 (kp hd2 (ko (.b true) (tn 1 (kp hd2 (ko (.b true) (tn 1 (kp hd2 (ko (eO he) (kp he (ko (.b true) (kp hd2 (ko (.b true) (tn 1 (kp hd2 (ko (.b true) (tn 1 (kp hd2 (ko (.b true) (tn 1 (kp hd2 (ko (nO w1) (kp w1 (ko (.b true) (kp hd2 (ko (eO he2) (kp he2 (ko (.b true) (kp hd2 (ko (.b true) (tn 1 (kp hd2 (ko (cO hh) (kp hh (ko (.b true) (tn 1 (kp hd2 (kb (b := false) (d := false) rfl (tn 2 (kc hp (tn 11 z))))))))))))))))))))))))))))))))))))))))))))) (by kernel_rfl) (by kernel_rfl) (by kernel_rfl) ?_; exact eN
 ·have hd2 : decide (((i + 1 : Nat) : Int) < (((lsA cs).length : Nat) : Int)) = false := dF (by omega); refine DR3 (ko (nO w1) (tn 1 (kp w1 (ko (.b false) (tn 4 (kp hd2 (ko (.b false) (kp hd2 (ko (.b false) (kp hd2 (ko (.b false) (kp hd2 (ko (.b false) (kp hd2 (ko (.b false) (kp hd2 (ko (.b false) (kp hd2 (ko (.b false) (kp hd2 (ko (.b false) (kp hd2 (ko (.b false) (kp hd2 (ko (.b false) (kp hd2 (kb (b := false) (d := false) rfl (tn 2 (kc hp (tn 11 z)))))))))))))))))))))))))))))) (by kernel_rfl) (by kernel_rfl) (by kernel_rfl) ?_; exact eN
inductive Runs : List Nat -> List (List Nat) -> Prop
 | nil : Runs [] []
 | blank {cs : List Nat} {rs : List (List Nat)} (h : Runs cs rs) : Runs (16 :: cs) rs
 | para {u cs : List Nat} {rs : List (List Nat)} (h0 : 0 < u.length) (hu : ∀ c ∈ u, c < 16) (hr : cs = [] \/ ∃ q, cs = 16 :: q) (h : Runs cs rs) : Runs (u ++ cs) (u :: rs)
def pbA (u : List Nat) : AV := Vae (paB u)
def bkB (rs : List (List Nat)) : List (Nat × ABox) := [(7, .vec 36 11 (rs.map pbA))]
def bkS (cs : List Nat) (i k : Nat) (os os2 : List AV) : St := sx 55 [(0, jL (lsA cs)), (1, jI 0), (7, .vs 7 k), (8, .vs 8 k), (9, jI ((i : Nat) : Int))] [(7, .vec 36 11 os), (8, .vec 129 2 os2)] []
theorem uniB (x : DBlock) : Uni 11 [Vev x] := by
 intro y hy; simp only [List.mem_cons, List.not_mem_nil, or_false] at hy; subst hy; exact ⟨rfl, rfl⟩
theorem bof_to (cs : List Nat) (rs : List (List Nat)) (hR : Runs cs rs) (hcs : ∀ c ∈ cs, c < 17) (hl : cs.length <= 16384) :
  Vfz Tryz.prog 42 [jL (lsA cs), jI 0] (bkB rs) [.vs 7 rs.length, .junk, jI 0] := by
 have hlq := Vf9 cs
 have hcl : ∀ v, v < cs.length -> el cs v < 17 := fun v hv => hcs _ (Vbt hv)
 refine BEGnT Tryz.func42 (by kernel_rfl) ?_; refine gO (tn 6 z) ?_; refine TELL 7 7 36 11 (by kernel_rfl) ?_; refine TELL 8 8 129 2 (by kernel_rfl) ?_; refine LP (n := cs.length + 1) (fun N M S => ∃ (dn rest : List (List Nat)) (i : Nat) (os os2 : List AV), Runs (cs.drop i) rest /\ dn ++ rest = rs /\ dn.length <= i /\ i <= cs.length /\ os = dn.map pbA /\ os2.length = dn.length /\ cs.length - i < N /\ M = () /\ S = bkS cs i dn.length os os2) (by kernel_rfl) ⟨[], rs, 0, [], [], hR, rfl, by simp, by omega, rfl, rfl, by omega, rfl, rfl⟩ (WK (by kernel_rfl)) ?_; rintro n0 M S ⟨dn, rest, i, os, os2, hRi, hrs, hdi, hi, hos, ho2, hF0, rfl, rfl⟩; obtain ⟨n0, rfl⟩ : ∃ k, n0 = k + 1 := ⟨n0 - 1, by omega⟩
 have hol : os.length = dn.length := by rw [hos, Za]
 generalize hdr : cs.drop i = dr at hRi
 have hdl : cs.length - i = dr.length := by rw [<- List.length_drop, hdr]
 cases hRi with
 | nil =>
  have hd : decide (((i : Nat) : Int) < (((lsA cs).length : Nat) : Int)) = false := dF (by simp at hdl; omega); rw [List.append_nil] at hrs; subst hrs; refine gO (tn 4 (kb hd z)) ?_; refine OUT (kq 16 z) (by kernel_rfl) ?_; refine GHOST (S' := sx 55 [(7, .vs 7 dn.length)] [(7, .vec 36 11 os)] []) (Vhz (WK (by kernel_rfl))) ?_; refine gO (tn 5 z) ?_; subst hos; exact ENT (by kernel_rfl) (by kernel_rfl) (by kernel_rfl)
 | blank h =>
  rename_i q
  have hlt : i < cs.length := by simp at hdl; omega
  have hd : decide (((i : Nat) : Int) < (((lsA cs).length : Nat) : Int)) = true := dT (by omega)
  have h16 : el cs i = 16 := by
   have := Vo5 cs i 0; rw [Nat.add_zero] at this; rw [<- this, hdr]; rfl
  have he := Vls hlt; rw [h16] at he
  have hm := of_to 16 (by decide)
  have w1 := wrE (((i : Nat) : Int) + 1) ((i + 1 : Nat) : Int) (by omega); refine gO (tn 4 (kb hd (tn 2 (ke he (tn 1 (kc hm (tn 5 (kb (b := true) (d := true) rfl (tn 1 (kn w1 (tn 1 z))))))))))) ?_; exact AG (m := n0) (S'' := bkS cs (i + 1) dn.length os os2) ⟨dn, rest, i + 1, os, os2, by rw [<- List.drop_drop, hdr]; exact h, hrs, by omega, by omega, hos, ho2, by omega, rfl, rfl⟩ (WK (by kernel_rfl)) (by kernel_rfl) (Zd _)
 | para h0 hu hr h =>
  rename_i u q rs2; rw [Zc] at hdl
  have hlt : i < cs.length := by omega
  have hd : decide (((i : Nat) : Int) < (((lsA cs).length : Nat) : Int)) = true := dT (by omega)
  have hc : el cs i < 16 := by
   have := Vo5 cs i 0; rw [Nat.add_zero] at this; rw [<- this, hdr, el_left _ _ _ h0]; exact hu _ (Vbt h0)
  have he := Vls hlt
  have hm := of_to (el cs i) (by omega); rw [mk0_eq hc] at hm
  have hb := blk_to cs u q i (el cs i) hdr h0 hu hr hcs hl
  have hub := uniB (paB u)
  have hap : dn.length <= os.length /\ Uni 11 [Vev (paB u)] /\ (dn.length + ([Vev (paB u)] : List AV).length) * 192 <= 140737488355328 := ⟨by omega, hub, by simp; omega⟩
  have hur : Uni 2 [.agg [vI ((i : Nat) : Int), vI ((i + u.length : Nat) : Int)]] := uni1 rfl rfl
  have hap2 : dn.length <= os2.length /\ Uni 2 [.agg [vI ((i : Nat) : Int), vI ((i + u.length : Nat) : Int)]] /\ (dn.length + ([.agg [vI ((i : Nat) : Int), vI ((i + u.length : Nat) : Int)]] : List AV).length) * 16 <= 140737488355328 := ⟨by omega, hur, by simp; omega⟩
  refine gO (tn 4 (kb hd (tn 2 (ke he (tn 1 (kc hm (tn 5 (kb (b := false) (d := false) rfl (tn 2 (kb (b := false) (d := false) rfl (tn 4 (kc hb (tn 10 (kb (b := false) (d := false) rfl (tn 2 (kp hub (kp hap (tn 5 (kp hur (kp hap2 (tn 3 z))))))))))))))))))))) ?_; refine AG (m := n0) (S'' := bkS cs (i + u.length) (dn.length + 1) (os.take dn.length ++ [Vev (paB u)]) (os2.take dn.length ++ [.agg [vI ((i : Nat) : Int), vI ((i + u.length : Nat) : Int)]])) ⟨dn ++ [u], rs2, i + u.length, os.take dn.length ++ [Vev (paB u)], os2.take dn.length ++ [.agg [vI ((i : Nat) : Int), vI ((i + u.length : Nat) : Int)]], ?_, by rw [<- hrs]; simp, by simp; omega, by omega, ?_, by simp; omega, by omega, rfl, by rw [Zc]; rfl⟩ (WK (by kernel_rfl)) (by kernel_rfl) (Zd _)
  ·rw [<- List.drop_drop, hdr, List.drop_left]; exact h
  ·rw [Zh (by omega), hos, Zp, List.map_singleton]
   show _ = _ ++ [Vae (paB u)]
   rw [Vd2]; rfl
theorem np3 (cs : List Nat) (rs : List (List Nat)) (hR : Runs cs rs) (hcs : ∀ c ∈ cs, c < 17) (hl : cs.length <= 16384) : W Tryz.prog (.region 3 (Vab 3 Tryz.f30) false) (fun e S1 => e = .normal /\ Weak S1 (sx 22 [(5, .vs 7 rs.length), (7, jI 0)] (bkB rs) [])) (sx 22 [(0, jL (lsA cs))] [] []) := by
 refine Vak ?_; rw [show (Vab 3 Tryz.f30).toList = [regO 3 Tryz.f30 0, regO 3 Tryz.f30 1, regO 3 Tryz.f30 2, regO 3 Tryz.f30 3, regO 3 Tryz.f30 4, regO 3 Tryz.f30 5, regO 3 Tryz.f30 6, regO 3 Tryz.f30 7, regO 3 Tryz.f30 8] by kernel_rfl]; refine Vap (jL (lsA cs)) 12 (by kernel_rfl) (by kernel_rfl) ?_; refine WO_newT (nb := bkB rs) (rs := [.vs 7 rs.length, .junk, jI 0]) (f := 42) (x := .func 42) (args := #[.tmp 12, .const (.int .i64 0)]) (tys := #[27, 3]) (fs := []) (cs := []) 13 (by kernel_rfl) (by kernel_rfl) rfl (Vac (by kernel_rfl) (bof_to cs rs hR hcs hl)) (by kernel_rfl) (by kernel_rfl) (by kernel_rfl) ?_; refine WOT_mv 11 (by kernel_rfl) (by kernel_rfl) ?_; refine Vfo 0 14 (.vs 7 rs.length) (by kernel_rfl) (by kernel_rfl) (by kernel_rfl) ?_; refine Vfo 1 15 .junk (by kernel_rfl) (by kernel_rfl) (by kernel_rfl) ?_; refine Vfo 2 16 (jI 0) (by kernel_rfl) (by kernel_rfl) (by kernel_rfl) ?_; refine Vok ?_; refine Vap (.vs 7 rs.length) 5 (by kernel_rfl) (by kernel_rfl) ?_; refine Vap .junk 6 (by kernel_rfl) (by kernel_rfl) ?_; refine Vap (jI 0) 7 (by kernel_rfl) (by kernel_rfl) ?_; exact Vbw rfl ⟨rfl, WK (by kernel_rfl)⟩
theorem npa_to (cs : List Nat) (rs : List (List Nat)) (hR : Runs cs rs) (hcs : ∀ c ∈ cs, c < 17) (hl : cs.length <= 16384) :
  Vfz Tryz.prog 30 [jL (lsA cs)] (bkB rs) [.vs 7 rs.length, .junk, jI 0] := by
 have hlq := Vf9 cs
 have hd : decide ((((lsA cs).length : Nat) : Int) > 16384) = false := dF (by omega); refine BEGnT Tryz.func30 (by kernel_rfl) ?_; refine gO (tn 6 (kb hd (kq 3 z))) ?_; refine NXW (sx 22 [(5, .vs 7 rs.length), (7, jI 0)] (bkB rs) []) (tn 2 (kb (b := false) (d := false) rfl (tn 5 z))) (by kernel_rfl) ?_ (by kernel_rfl) ?_
 ·refine Vb6 (S' := sx 22 [(0, jL (lsA cs))] [] []) (WK (by kernel_rfl)) ?_; exact Vbh (c' := .region 3 (Vab 3 Tryz.f30) false) (by kernel_rfl) (np3 cs rs hR hcs hl)
 exact ENT (by kernel_rfl) (by kernel_rfl) (by kernel_rfl)
theorem nP1 (cs : List Nat) (rs : List (List Nat)) (hR : Runs cs rs) (hcs : ∀ c ∈ cs, c < 17) (hl : cs.length <= 16384) : W Tryz.prog (.region 1 (Vab 1 Tryz.f16) false) (fun e S1 => e = .normal /\ Weak S1 (sx 15 [(4, .vs 7 rs.length), (6, jI 0)] (bkB rs) [])) (sx 15 [(0, jL (lsA cs))] [] []) := by
 refine Vak ?_; rw [show (Vab 1 Tryz.f16).toList = [regO 1 Tryz.f16 0, regO 1 Tryz.f16 1, regO 1 Tryz.f16 2, regO 1 Tryz.f16 3, regO 1 Tryz.f16 4, regO 1 Tryz.f16 5, regO 1 Tryz.f16 6, regO 1 Tryz.f16 7, regO 1 Tryz.f16 8] by kernel_rfl]; refine Vap (jL (lsA cs)) 8 (by kernel_rfl) (by kernel_rfl) ?_; refine WO_newT (nb := bkB rs) (rs := [.vs 7 rs.length, .junk, jI 0]) (f := 30) (x := .func 30) (args := #[.tmp 8]) (tys := #[27]) (fs := []) (cs := []) 9 (by kernel_rfl) (by kernel_rfl) rfl (Vac (by kernel_rfl) (npa_to cs rs hR hcs hl)) (by kernel_rfl) (by kernel_rfl) (by kernel_rfl) ?_; refine WOT_mv 7 (by kernel_rfl) (by kernel_rfl) ?_; refine Vfo 0 10 (.vs 7 rs.length) (by kernel_rfl) (by kernel_rfl) (by kernel_rfl) ?_; refine Vfo 1 11 .junk (by kernel_rfl) (by kernel_rfl) (by kernel_rfl) ?_; refine Vfo 2 12 (jI 0) (by kernel_rfl) (by kernel_rfl) (by kernel_rfl) ?_; refine Vok ?_; refine Vap (.vs 7 rs.length) 4 (by kernel_rfl) (by kernel_rfl) ?_; refine Vap .junk 5 (by kernel_rfl) (by kernel_rfl) ?_; refine Vap (jI 0) 6 (by kernel_rfl) (by kernel_rfl) ?_; exact Vbw rfl ⟨rfl, WK (by kernel_rfl)⟩
theorem nP_to (cs : List Nat) (rs : List (List Nat)) (hR : Runs cs rs) (hcs : ∀ c ∈ cs, c < 17) (hl : cs.length <= 16384) :
  Vfz Tryz.prog 16 [jL (lsA cs)] (bkB rs) [.vs 7 rs.length, jI 0] := by
 refine BEGnT Tryz.func16 (by kernel_rfl) ?_; refine gO (kq 1 (tn 2 z)) ?_; refine NXW (sx 15 [(4, .vs 7 rs.length), (6, jI 0)] (bkB rs) []) (tn 4 z) (by kernel_rfl) ?_ (by kernel_rfl) ?_
 ·refine Vb6 (S' := sx 15 [(0, jL (lsA cs))] [] []) (WK (by kernel_rfl)) ?_; exact Vbh (c' := .region 1 (Vab 1 Tryz.f16) false) (by kernel_rfl) (nP1 cs rs hR hcs hl)
 exact ENT (by kernel_rfl) (by kernel_rfl) (by kernel_rfl)
theorem wk0_to (s : SV) : CallTo Tryz.prog 17 [jL [], s] [] [] (jI 0) [] [] := by
 have h : CallTo Tryz.prog 17 [jL [], .junk] [] [] (jI 0) [] [] := by
  refine bGs Tryz.func17 ?_; refine gO (tn 4 z) ?_; refine uN (sx 51 [(9, jI 0), (10, jI 0)] [] []) 1 ?_; refine gO (tn 1 (kb (b := decide ((0 : Int) < (0 : Int))) (d := false) rfl z)) ?_; refine uO (tn 1 z) ?_; exact eNs
 refine Vet h (fun G w vs hv => ?_); obtain ⟨u, us, h1, h2, u2, us2, h3, _, h5⟩ := hv; exact ⟨u, us, h1, h2, u2, us2, h3, trivial, h5⟩
def plB (u : List Nat) : DBlock := ⟨1, 0, e0, e0, e0, e0, ⟨e0, [], []⟩, pL u, []⟩
def wkL (rs : List (List Nat)) (v : Nat) : List DBlock := (rs.take v).map plB ++ (rs.drop v).map paB
theorem Vmx (rs : List (List Nat)) (v : Nat) (h : v <= rs.length) : (wkL rs v).length = rs.length := by
 rw [wkL, Zc, Za, Za, Zl, List.length_drop]; omega
theorem wkL_el {rs : List (List Nat)} {v : Nat} (h : v < rs.length) : el (wkL rs v) v = paB (el rs v) := by
 have hl : ((rs.take v).map plB).length = v := by rw [Za, Zl]; omega
 unfold wkL el; rw [List.getElem?_append_right (by omega), hl, Nat.sub_self, Zj, List.getElem?_drop, Nat.add_zero, Zb h]; rfl
theorem wkL_el2 {rs : List (List Nat)} {v : Nat} (h : v < rs.length) : el (wkL rs (v + 1)) v = plB (el rs v) := by
 unfold wkL el; rw [Zn (by rw [Za, Zl]; omega), Zj, List.getElem?_take_of_lt (by omega), Zb h]; rfl
theorem wkL_set {rs : List (List Nat)} {v : Nat} (h : v < rs.length) : (wkL rs v).set v (plB (el rs v)) = wkL rs (v + 1) := by
 have hl : ((rs.take v).map plB).length = v := by rw [Za, Zl]; omega
 have he : el rs v = rs[v] := by simp [el, h]
 unfold wkL; rw [List.set_append_right _ _ (by omega), hl, Nat.sub_self, List.drop_eq_getElem_cons h, Zi, List.set_cons_zero, Zq h, Zp, List.append_assoc, he]; rfl
theorem set_lin {rs : List (List Nat)} {v : Nat} (h : v < rs.length) : ((wkL rs v).map Vae).set v ((((wkL rs v).map Vae).getD v (.val undef)).upd 9 (.sl ((pL (el rs v)).map Va1))) = (wkL rs (v + 1)).map Vae := by
 have hl := Vmx rs v (by omega); rw [<- wkL_set h, List.map_set]; congr 1
 have e : (wkL rs v)[v]'(by omega) = paB (el rs v) := by
  have := wkL_el h; unfold el at this; rw [Zb (by omega)] at this; exact this
 rw [List.getD_eq_getElem?_getD, Zj, Zb (by omega), Option.map_some, Option.getD_some, e, Vd2, Vd2]; rfl
theorem st_lin {rs : List (List Nat)} {v : Nat} (h : v < rs.length) (x : List AV) : 0 <= ((v : Nat) : Int) /\ ((v : Nat) : Int) < ((((wkL rs v).map Vae).length : Nat) : Int) /\ 9 + 1 <= (((wkL rs v).map Vae).getD ((v : Nat) : Int).toNat (.val undef)).cells.length /\ (((wkL rs v).map Vae).getD ((v : Nat) : Int).toNat (.val undef)).isTup = false /\ (AV.sl x).isTup = false /\ (AV.sl x).cells.length = 1 /\ 0 < 1 := by
 have hl := Vmx rs v (by omega)
 have e : ((wkL rs v).map Vae).getD ((v : Nat) : Int).toNat (.val undef) = Vae ((wkL rs v)[v]'(by omega)) := by
  rw [Int.toNat_natCast, List.getD_eq_getElem?_getD, Zj, Zb (by omega)]; rfl
 rw [e, Vd2]; exact ⟨by omega, by rw [Za]; omega, (show 10 <= 11 by decide), rfl, rfl, rfl, by decide⟩
def wkB (ls : List DBlock) : List (Nat × ABox) := [(1000, .cells 56 [.fn 17 [] [.ptr 1000 0]]), (1003, .vec 36 11 (ls.map Vae))]
def wkS (rs : List (List Nat)) (v : Nat) : St := sx 51 [(0, .vs 1003 rs.length), (1, .ptr 1000 0), (9, jI ((rs.length : Nat) : Int)), (10, jI ((v : Nat) : Int))] (wkB (wkL rs v)) []
theorem wk_to (rs : List (List Nat)) (hrs : ∀ u ∈ rs, 0 < u.length /\ u.length <= 10000 /\ ∀ c ∈ u, c < 16) (hl : rs.length <= 1073741824) :
  CallTo Tryz.prog 17 [.vs 1003 rs.length, .ptr 1000 0] (wkB (rs.map paB)) [] (jI 0) (kept (wkB (rs.map plB))) [] := by
 refine BEGv (fun _ : Unit => jI 0) (fun _ => wkB (rs.map plB)) (fun _ => []) () Tryz.func17 (by kernel_rfl) ?_; refine gO (tn 4 z) ?_; refine LP (n := rs.length + 1) (fun N M S => ∃ (v : Nat), v <= rs.length /\ rs.length - v < N /\ M = () /\ S = wkS rs v) (by kernel_rfl) ⟨0, by omega, by omega, rfl, rfl⟩ (WK (by kernel_rfl)) ?_; rintro n0 M S ⟨v, hv, hF0, rfl, rfl⟩; obtain ⟨n0, rfl⟩ : ∃ k, n0 = k + 1 := ⟨n0 - 1, by omega⟩
 by_cases h1 : v < rs.length
 ·have hd : decide (((v : Nat) : Int) < ((rs.length : Nat) : Int)) = true := dT (by omega)
  have hi : 0 <= ((v : Nat) : Int) /\ ((v : Nat) : Int) < ((rs.length : Nat) : Int) := ⟨by omega, by omega⟩
  have hll := Vmx rs v (by omega)
  have hei := Vmi (wkL rs v) ((v : Nat) : Int) (by omega) (by omega); rw [show ((v : Nat) : Int).toNat = v from rfl, wkL_el h1] at hei; obtain ⟨u0, u1, u2⟩ := hrs _ (Vbt h1)
  have hp := par_para (el rs v) u2 u0 u1
  have he0 : 0 <= (0 : Int) /\ (([txI (paT (el rs v))] : List DInline).map Va1)[(0 : Int).toNat]? = some (Va8 (txI (paT (el rs v)))) := ⟨Int.le_refl _, rfl⟩
  have hst := st_lin h1 ((pL (el rs v)).map Va1)
  have w1 := wrE (((v : Nat) : Int) + 1) ((v + 1 : Nat) : Int) (by omega); refine gO (tn 1 (kb hd (tn 4 (kp hi (tn 1 (ke hei (tn 2 (kb (b := true) (d := true) rfl (tn 2 (kp hi (tn 1 (ke hei (ke he0 (tn 2 (kc hp (tn 7 (kb (b := false) (d := false) rfl (tn 3 (kp hi (tn 1 (kp hst z))))))))))))))))))))) ?_; refine BOX (e := 36) (sz := 11) 1003 (by kernel_rfl) (set_lin h1) ?_
  have hll2 := Vmx rs (v + 1) (by omega)
  have hei2 := Vmi (wkL rs (v + 1)) ((v : Nat) : Int) (by omega) (by omega); rw [show ((v : Nat) : Int).toNat = v from rfl, wkL_el2 h1] at hei2
  have hk0 := wk0_to (.ptr 1000 0); refine DR3 (tn 3 (kp hi (ko (eO hei2) (tn 1 (kp hei2 (ko (cO hk0) (kp hk0 (tn 4 (kb (b := false) (d := false) rfl (kn w1 (tn 1 z))))))))))) (by kernel_rfl) (by kernel_rfl) (by kernel_rfl) ?_; exact AG (m := n0) (S'' := wkS rs (v + 1)) ⟨v + 1, by omega, by omega, rfl, rfl⟩ (WK (by kernel_rfl)) (by kernel_rfl) (Zd _)
 ·have hd : decide (((v : Nat) : Int) < ((rs.length : Nat) : Int)) = false := dF (by omega)
  have hvl : v = rs.length := by omega
  subst hvl; refine gO (tn 1 (kb hd z)) ?_; refine OUT (tn 1 z) (by kernel_rfl) ?_; rw [show rs.map plB = wkL rs rs.length by simp [wkL]]; exact ENk (by kernel_rfl) (by kernel_rfl) (by kernel_rfl)
def szB (rs : List (List Nat)) : Nat := rs.foldl (fun m u => m + (pL u).length) rs.length
theorem fold_ge {f : List Nat -> Nat} : ∀ (l : List (List Nat)) (a : Nat), a <= l.foldl (fun m x => m + f x) a
 | [], a => Zk _
 | y :: l, a => by
  have := fold_ge (f := f) l (a + f y); simp only [List.foldl_cons]; omega
theorem fold_take {f : List Nat -> Nat} (l : List (List Nat)) (a v : Nat) : (l.take v).foldl (fun m x => m + f x) a <= l.foldl (fun m x => m + f x) a := by
 conv => rhs; rw [<- List.take_append_drop v l, List.foldl_append]
 exact fold_ge (l.drop v) _
theorem tk_elG {α : Type} [Inhabited α] {l : List α} {v : Nat} (h : v < l.length) : l.take (v + 1) = l.take v ++ [el l v] := by
 rw [Zq h]; simp [el, h]
theorem szbs_to (rs : List (List Nat)) (hrs : ∀ u ∈ rs, u.length <= 10000) (hl : rs.length <= 1048576) (hz : szB rs <= 1073741824) : CallTo Tryz.prog 34 [jL ((rs.map plB).map Vae)] [] [] (jI ((szB rs : Nat) : Int)) [] [] := by
 have hlq : lenM Vae (rs.map plB) = rs.length := by rw [Va2, Za]
 refine bG Tryz.func34 ?_; refine gO (tn 7 z) ?_; refine LP (n := rs.length + 1) (fun N M S => ∃ (v m : Nat), v <= rs.length /\ m = (rs.take v).foldl (fun m u => m + (pL u).length) rs.length /\ rs.length - v < N /\ M = () /\ S = sx 29 [(0, jL ((rs.map plB).map Vae)), (3, jI ((m : Nat) : Int)), (8, jI ((lenM Vae (rs.map plB) : Nat) : Int)), (9, jI ((v : Nat) : Int))] [] []) (by kernel_rfl) ⟨0, lenM Vae (rs.map plB), by omega, by rw [hlq]; rfl, by omega, rfl, rfl⟩ (WK (by kernel_rfl)) ?_; rintro n0 M S ⟨v, m, hv, hm, hF0, rfl, rfl⟩; obtain ⟨n0, rfl⟩ : ∃ k, n0 = k + 1 := ⟨n0 - 1, by omega⟩
 have hmz : m <= 1073741824 := Nat.le_trans (by rw [hm]; exact fold_take rs _ v) hz
 by_cases h1 : v < rs.length
 ·have hd : decide (((v : Nat) : Int) < ((lenM Vae (rs.map plB) : Nat) : Int)) = true := dT (by omega)
  have hu := hrs _ (Vbt h1)
  have hpl := Vgw (el rs v)
  have hc := szl_to 1 (pL (el rs v)) (nb_para _ hu) (by rw [show szN 1 (pL (el rs v)) = (pL (el rs v)).length from sz_one _ _]; omega); rw [show szN 1 (pL (el rs v)) = (pL (el rs v)).length from sz_one _ _] at hc
  have hc0 := szb0_to
  have he := Vkk (rs.map plB) v (by rw [Za]; exact h1)
  have hel : el (rs.map plB) v = plB (el rs v) := el_map plB rs v h1; rw [hel] at he
  have w0 := wrE ((((pL (el rs v)).length : Nat) : Int) + 0) (((pL (el rs v)).length : Nat) : Int) (by omega)
  have w1 := wrE (((m : Nat) : Int) + (((pL (el rs v)).length : Nat) : Int)) ((m + (pL (el rs v)).length : Nat) : Int) (by omega)
  have w2 := wrE (((v : Nat) : Int) + 1) ((v + 1 : Nat) : Int) (by omega); refine gO (tn 1 (kb hd (tn 2 z))) ?_; refine DR3 (ko (eO he) (tn 3 (kp he (ko (cO hc) (tn 2 (kp hc (ko (eO he) (tn 3 (kp he (ko (cO hc0) (tn 2 (kp hc0 (ko (nO w0) (tn 1 (kp w0 (ko (nO w1) (kp w1 (tn 1 (kn w2 (tn 1 z)))))))))))))))))))) (by kernel_rfl) (by kernel_rfl) (by kernel_rfl) ?_; exact AG (m := n0) ⟨v + 1, m + (pL (el rs v)).length, by omega, by rw [tk_elG h1, List.foldl_append, <- hm]; rfl, by omega, rfl, rfl⟩ (WK (by kernel_rfl)) (by kernel_rfl) (Zd _)
 ·have hd : decide (((v : Nat) : Int) < ((lenM Vae (rs.map plB) : Nat) : Int)) = false := dF (by omega)
  have hvl : v = rs.length := by omega
  subst hvl; rw [List.take_length] at hm
  have hm2 : m = szB rs := hm; rw [<- hm2]; refine gO (tn 1 (kb hd z)) ?_; refine OUT (tn 2 z) (by kernel_rfl) ?_; exact eN
theorem sizs_to (rs : List (List Nat)) (hrs : ∀ u ∈ rs, u.length <= 10000) (hl : rs.length <= 1048576) (hz : szB rs <= 1073741824) : CallTo Tryz.prog 19 [.av (.agg [.sl [], .sl ((rs.map plB).map Vae)])] [] [] (jI ((szB rs : Nat) : Int)) [] [] := by
 have hc := szbs_to rs hrs hl hz; refine bG Tryz.func19 ?_; refine gO (tn 4 (kc hc (tn 1 z))) ?_; exact eN
theorem idx_ln {c : Nat} (h : c < 17) : decide (idxB (lnB c) 10 >= 0) = false := by
 have k : (List.range 17).all (fun c => !decide (idxB (lnB c) 10 >= 0)) = true := by kernel_rfl
 have := Zm.1 k c (List.mem_range.2 h); simpa using this
theorem Runs.words {cs : List Nat} {rs : List (List Nat)} (h : Runs cs rs) : ∀ u ∈ rs, 0 < u.length /\ u.length <= cs.length /\ ∀ c ∈ u, c < 16 := by
 induction h with
 | nil => intro u hu; cases hu
 | blank h ih =>
  intro u hu; obtain ⟨h1, h2, h3⟩ := ih u hu; exact ⟨h1, by simp only [Ze]; omega, h3⟩
 | para h0 hu hr h ih =>
  intro w hw; rcases List.mem_cons.1 hw with rfl | hw
  ·exact ⟨h0, by rw [Zc]; omega, hu⟩
  ·obtain ⟨h1, h2, h3⟩ := ih w hw; exact ⟨h1, by rw [Zc]; omega, h3⟩
theorem Runs.len {cs : List Nat} {rs : List (List Nat)} (h : Runs cs rs) : rs.length <= cs.length := by
 induction h with
 | nil => exact Zk _
 | blank h ih => simp only [Ze]; omega
 | para h0 hu hr h ih => rw [Ze, Zc]; omega
theorem bl7 (cs : List Nat) (rs : List (List Nat)) (hR : Runs cs rs) (hcs : ∀ c ∈ cs, c < 17) (hl : cs.length <= 16384) : W Tryz.prog (.region 7 (Vab 7 Tryz.f8) false) (fun e S1 => e = .normal /\ Weak S1 (sx 45 [(6, .vs 7 rs.length), (7, jI 0)] (bkB rs) [])) (sx 45 [(0, jL (lsA cs))] [] []) := by
 refine Vak ?_; rw [show (Vab 7 Tryz.f8).toList = [regO 7 Tryz.f8 0, regO 7 Tryz.f8 1, regO 7 Tryz.f8 2, regO 7 Tryz.f8 3, regO 7 Tryz.f8 4, regO 7 Tryz.f8 5, regO 7 Tryz.f8 6] by kernel_rfl]; refine Vap (jL (lsA cs)) 26 (by kernel_rfl) (by kernel_rfl) ?_; refine WO_newT (nb := bkB rs) (rs := [.vs 7 rs.length, jI 0]) (f := 16) (x := .func 16) (args := #[.tmp 26]) (tys := #[27]) (fs := []) (cs := []) 27 (by kernel_rfl) (by kernel_rfl) rfl (Vac (by kernel_rfl) (nP_to cs rs hR hcs hl)) (by kernel_rfl) (by kernel_rfl) (by kernel_rfl) ?_; refine WOT_mv 25 (by kernel_rfl) (by kernel_rfl) ?_; refine Vfo 0 28 (.vs 7 rs.length) (by kernel_rfl) (by kernel_rfl) (by kernel_rfl) ?_; refine Vfo 1 29 (jI 0) (by kernel_rfl) (by kernel_rfl) (by kernel_rfl) ?_; refine Vok ?_; refine Vap (.vs 7 rs.length) 6 (by kernel_rfl) (by kernel_rfl) ?_; refine Vap (jI 0) 7 (by kernel_rfl) (by kernel_rfl) ?_; exact Vbw rfl ⟨rfl, WK (by kernel_rfl)⟩
theorem bls_to (cs : List Nat) (rs : List (List Nat)) (hR : Runs cs rs) (hcs : ∀ c ∈ cs, c < 17) (hl : cs.length <= 10000) (hz : szB rs <= 32768) :
  CallTo Tryz.prog 8 [jL (lsA cs)] [] [] (.av (.tup [.sl ((rs.map plB).map Vae), vI 0])) [] [] := by
 have hlq := Vf9 cs
 have hrl := hR.len
 have hrw := hR.words
 have hcl : ∀ v, v < cs.length -> el cs v < 17 := fun v hv => hcs _ (Vbt hv)
 have hwk := wk_to rs (fun u hu => by obtain ⟨h1, h2, h3⟩ := hrw u hu; exact ⟨h1, by omega, h3⟩) (by omega); unfold wkB at hwk; rw [show (rs.map paB).map Vae = rs.map pbA by rw [List.map_map]; rfl] at hwk
 have hwk2 : CallTo Tryz.prog 17 [.vs 7 rs.length, .ptr 8 0] [(8, .cells 56 [.fn 17 [] [.ptr 8 0]]), (7, .vec 36 11 (rs.map pbA))] [] (jI 0) [(8, .cells 56 [.fn 17 [] [.ptr 8 0]]), (7, .vck 36 11 ((rs.map plB).map Vae))] [] := Vac (by kernel_rfl) (Vaf (Vas (8, 0) (1000, 0) rfl) (Vaf (Vas (7, 0) (1003, 0) rfl) hwk))
 have hsz := sizs_to rs (fun u hu => by obtain ⟨h1, h2, h3⟩ := hrw u hu; omega) (by omega) (by omega)
 have hdz : decide (((szB rs : Nat) : Int) > 32768) = false := dF (by omega); refine bG Tryz.func8 ?_; refine gO (tn 5 z) ?_; refine LP (n := cs.length + 1) (fun N M S => ∃ (v : Nat), v <= cs.length /\ cs.length - v < N /\ M = () /\ S = sx 45 [(0, jL (lsA cs)), (10, jL (lsA cs)), (11, jI (((lsA cs).length : Nat) : Int)), (12, jI ((v : Nat) : Int))] [] []) (by kernel_rfl) ⟨0, by omega, by omega, rfl, rfl⟩ (WK (by kernel_rfl)) ?_; rintro n0 M S ⟨v, hv, hF0, rfl, rfl⟩; obtain ⟨n0, rfl⟩ : ∃ k, n0 = k + 1 := ⟨n0 - 1, by omega⟩
 by_cases h1 : v < cs.length
 ·have hd : decide (((v : Nat) : Int) < (((lsA cs).length : Nat) : Int)) = true := dT (by omega)
  have he := Vls h1
  have hva := val_to (el cs v) (hcl v h1)
  have hix := idxB_to (lnB (el cs v)) 10
  have hif := idx_ln (hcl v h1)
  have w1 := wrE (((v : Nat) : Int) + 1) ((v + 1 : Nat) : Int) (by omega); refine gO (tn 1 (kb hd (ke he (tn 3 (kc hva (tn 2 (kb (b := false) (d := false) rfl (tn 1 (kb (b := false) (d := false) rfl (kc hix (kb (b := false) (d := false) rfl (tn 1 (kb (b := false) (d := false) rfl (kb hif (kn w1 (tn 1 z)))))))))))))))) ?_; exact AG (m := n0) ⟨v + 1, by omega, by omega, rfl, rfl⟩ (WK (by kernel_rfl)) (by kernel_rfl) (Zd _)
 ·have hd : decide (((v : Nat) : Int) < (((lsA cs).length : Nat) : Int)) = false := dF (by omega)
  have hvl : v = cs.length := by omega
  subst hvl; refine gO (tn 1 (kb hd z)) ?_; refine OUT (kq 7 z) (by kernel_rfl) ?_; refine NXW (sx 45 [(6, .vs 7 rs.length), (7, jI 0)] (bkB rs) []) (tn 2 (kb (b := false) (d := false) rfl (tn 5 (kg hwk2 trivial (tn 3 (kb (b := false) (d := false) rfl (kq 15 z))))))) (by kernel_rfl) ?_ (by kernel_rfl) ?_
  ·refine Vb6 (S' := sx 45 [(0, jL (lsA cs))] [] []) (WK (by kernel_rfl)) ?_; exact Vbh (c' := .region 7 (Vab 7 Tryz.f8) false) (by kernel_rfl) (bl7 cs rs hR hcs (by omega))
  refine FRZ 6 7 (n := rs.length) (l := (rs.map plB).map Vae) (l' := (rs.map plB).map Vae) (by kernel_rfl) (by simp) (by rw [Zh (by simp)]) ?_; refine gO (tn 2 (kc hsz (tn 1 (kb hdz (tn 3 z))))) ?_; exact eN
def splS_L0 (s : ByteArray) : Nat -> (List ByteArray) -> Nat -> Nat -> List ByteArray
 | 0, _, _, _ => default
 | n0 + 1, v3, v4, v8 => cond (decide (((v8 : Nat) : Int) < ((Zf s : Nat) : Int))) (cond (((byt s v8 : Nat) : Int) == 10) (splS_L0 s n0 (v3 ++ ([Zg s v4 v8])) (v8 + 1) (v8 + 1)) (splS_L0 s n0 v3 v4 (v8 + 1))) (cond (decide (((v4 : Nat) : Int) < ((Zf s : Nat) : Int))) (v3 ++ ([Zg s v4 (Zf s)])) v3)
def splS (s : ByteArray) : List ByteArray := splS_L0 s ((s.size - 0) + 1) ([]) 0 0
theorem splS_to (s : ByteArray) (hs : s.size <= 1073741824) : CallTo Tryz.prog 11 [(jS s)] [] [] (jL ((splS s).map Vah)) [] [] := by
 refine BEG (fun r : List ByteArray => (jL (r.map Vah))) (splS s) Tryz.func11 (by kernel_rfl) ?_; refine UF (splS.eq_1 ..) ?_; refine GO (tn 6 z) (by kernel_rfl) ?_; refine LP (fun N M S => ∃ gv3 : Nat, ∃ v3 : List ByteArray, ∃ v4 : Nat, ∃ v8 : Nat, (v4 <= v8 /\ v8 <= s.size) /\ (v3.length <= v8) /\ (s.size - v8 < N) /\ M = splS_L0 s N v3 v4 v8 /\ S = (sx 36 [(0, (jS s)), (3, (.own (203, 10) gv3 1 (v3.map Vah))), (4, (jI ((v4 : Nat) : Int))), (7, (jI ((Zf s : Nat) : Int))), (8, (jI ((v8 : Nat) : Int)))] [] [((203, 10), gv3)])) (by kernel_rfl) ⟨0, _, _, _, by first | omega | assumption | (simp only [Va2]; omega) | (simp; done) | (simp; omega), by first | omega | assumption | (simp only [Va2]; omega) | (simp; done) | (simp; omega), by omega, rfl, rfl⟩ (WKf [(3, (.own (203, 10) 0 1 (([]).map Vah)))] (ac (show ((([]).map Vah) : List AV) = [] /\ 0 < 10 /\ (0 : Nat) = 0 from ⟨rfl, by decide, rfl⟩) an) (by kernel_rfl)) ?_; rintro n0 M S ⟨gv3, v3, v4, v8, hv, hb, hF0, rfl, rfl⟩; obtain ⟨n0, rfl⟩ : ∃ k, n0 = k + 1 := ⟨n0 - 1, by omega⟩
 refine UF (splS_L0.eq_2 ..) ?_; refine GO (tn 1 z) (by kernel_rfl) ?_; refine CSd (fun h1p h1 => ?_) (fun h1p h1 => ?_)
 ·refine GO (kb h1 (tn 4 (kp (ib s ((v8 : Nat) : Int) (by omega)) (tn 1 z)))) (by kernel_rfl) ?_; refine CSe (fun h2p h2 => ?_) (fun h2p h2 => ?_)
  ·have := Vbe s v4 v8; refine GO (kb h2 (tn 4 (kp (show 0 <= ((v4 : Nat) : Int) /\ ((v4 : Nat) : Int) <= ((v8 : Nat) : Int) /\ ((v8 : Nat) : Int) <= ((Zf s : Nat) : Int) from (by first | omega | (simp only [Va2, true_and]; omega))) (kp (show Uni 1 [(vS (Zg s v4 v8))] from (Vjg rfl rfl)) (kp (show (gv3 : Nat) = gv3 /\ Uni 1 [(vS (Zg s v4 v8))] /\ (((v3.map Vah) : List AV).length + ([(vS (Zg s v4 v8))] : List AV).length) * 16 <= 140737488355328 from ⟨rfl, Vjg rfl rfl, by first | omega | (simp; done) | (simp; omega)⟩) (kw (ap1 Vah v3 (Zg s v4 v8)) (tn 2 (kn (wrE (((v8 : Nat) : Int) + 1) ((v8 + 1 : Nat) : Int) (by omega)) (tn 1 (kn (wrE (((v8 : Nat) : Int) + 1) ((v8 + 1 : Nat) : Int) (by omega)) (tn 1 z))))))))))) (by kernel_rfl) ?_; exact AG ⟨gv3 + 1, _, _, _, by first | omega | assumption | (simp only [Va2]; omega) | (simp; done) | (simp; omega), by first | omega | assumption | (simp only [Va2]; omega) | (simp; done) | (simp; omega), by omega, rfl, rfl⟩ (WK (by kernel_rfl)) (by kernel_rfl) (Zd _)
  ·refine GO (kb h2 (kn (wrE (((v8 : Nat) : Int) + 1) ((v8 + 1 : Nat) : Int) (by omega)) (tn 1 z))) (by kernel_rfl) ?_; exact AG ⟨gv3, _, _, _, by first | omega | assumption | (simp only [Va2]; omega) | (simp; done) | (simp; omega), by first | omega | assumption | (simp only [Va2]; omega) | (simp; done) | (simp; omega), by omega, rfl, rfl⟩ (WK (by kernel_rfl)) (by kernel_rfl) (Zd _)
 ·refine GO (kb h1 z) (by kernel_rfl) ?_; refine OUT (tn 4 z) (by kernel_rfl) ?_; refine CSd (fun h3p h3 => ?_) (fun h3p h3 => ?_)
  ·have := Vbe s v4 (Zf s); refine GO (kb h3 (tn 3 (kp (show 0 <= ((v4 : Nat) : Int) /\ ((v4 : Nat) : Int) <= ((Zf s : Nat) : Int) /\ ((Zf s : Nat) : Int) <= ((Zf s : Nat) : Int) from (by first | omega | (simp only [Va2, true_and]; omega))) (kp (show Uni 1 [(vS (Zg s v4 (Zf s)))] from (Vjg rfl rfl)) (kp (show (gv3 : Nat) = gv3 /\ Uni 1 [(vS (Zg s v4 (Zf s)))] /\ (((v3.map Vah) : List AV).length + ([(vS (Zg s v4 (Zf s)))] : List AV).length) * 16 <= 140737488355328 from ⟨rfl, Vjg rfl rfl, by first | omega | (simp; done) | (simp; omega)⟩) (kw (ap1 Vah v3 (Zg s v4 (Zf s))) (tn 3 z))))))) (by kernel_rfl) ?_; exact EN (by kernel_rfl)
  ·refine GO (kb h3 (tn 2 z)) (by kernel_rfl) ?_; exact EN (by kernel_rfl)
theorem fen_ln {c : Nat} (h : c < 17) : (!eqs (lnB c) ⟨#[45, 45, 45]⟩) = true := by
 have k : (List.range 17).all (fun c => !eqs (lnB c) ⟨#[45, 45, 45]⟩) = true := by kernel_rfl
 exact Zm.1 k c (List.mem_range.2 h)
theorem meta_to (cs : List Nat) (hcs : ∀ c ∈ cs, c < 17) (hl : cs.length <= 16384) : CallTo Tryz.prog 9 [jL (lsA cs)] [] [] (.av (.tup [.sl [], vI 0])) [] [] := by
 have hlq := Vf9 cs; refine bG Tryz.func9 ?_
 by_cases h0 : cs.length = 0
 ·have hz : ((((lsA cs).length : Nat) : Int) == 0) = true := by rw [beq_iff_eq]; omega
  refine gO (tn 6 (kb hz (kb hz (kb hz (kb hz (kb hz (kb (b := true) (d := true) rfl (tn 2 z)))))))) ?_; exact eN
 ·have hz : ((((lsA cs).length : Nat) : Int) == 0) = false := beq_false_of_ne (by omega)
  have he := Vls (cs := cs) (v := 0) (by omega)
  have hf := fen_ln (hcs _ (Vbt (l := cs) (v := 0) (by omega))); refine gO (tn 6 (kb hz (tn 1 (kb hz (ke he (kb hz (tn 1 (kb hz (tn 1 (kb hz (kb hf (tn 2 z)))))))))))) ?_; exact eN
def tx (cs : List Nat) : List UInt8 := cs.flatMap (fun c => lnL c ++ [10])
def txB (cs : List Nat) : ByteArray := ⟨(tx cs).toArray⟩
theorem spl_skip (s : ByteArray) (acc : List ByteArray) (f : Nat) : ∀ (w : List UInt8) (i n : Nat), At s i w -> (∀ b ∈ w, b.toNat ≠ 10) -> splS_L0 s (n + w.length) acc f i = splS_L0 s n acc f (i + w.length)
 | [], i, n, _, _ => rfl
 | b :: w, i, n, ha, hw => by
  have hs := ha.size
  have hb := ha.byt
  have h10 := hw b (by simp); simp only [Ze] at hs
  have ih := spl_skip s acc f w (i + 1) n ha.tail (fun x hx => hw x (by simp [hx])); rw [show n + (b :: w).length = (n + w.length) + 1 by simp only [Ze]; omega, splS_L0]; rw [show decide (((i : Nat) : Int) < ((Zf s : Nat) : Int)) = true from decide_eq_true (by omega), hb, beq_false_of_ne (show ((b.toNat : Nat) : Int) ≠ 10 by omega)]; simp only [cond_true, cond_false]; rw [ih]; congr 1; simp only [Ze]; omega
theorem lnL_ne {c : Nat} : ∀ b ∈ lnL c, b.toNat ≠ 10 /\ 97 <= b.toNat /\ b.toNat <= 122 := by
 intro b hb; unfold lnL at hb
 split at hb
 ·rename_i h; obtain ⟨h1, h2⟩ := wL_let h b hb; exact ⟨by omega, h1, h2⟩
 ·cases hb
theorem spl_tx (s : ByteArray) : ∀ (cs : List Nat) (i n : Nat) (acc : List ByteArray), At s i (tx cs) -> i + (tx cs).length = s.size -> (tx cs).length < n -> splS_L0 s n acc i i = acc ++ cs.map lnB
 | [], i, n, acc, _, he, hn => by
  obtain ⟨n, rfl⟩ : ∃ k, n = k + 1 := ⟨n - 1, by omega⟩
  have he2 : i = s.size := he; subst he2; rw [splS_L0, show decide (((s.size : Nat) : Int) < ((Zf s : Nat) : Int)) = false from decide_eq_false (by omega)]; simp
 | c :: cs, i, n, acc, ha, he, hn => by
  have e : tx (c :: cs) = lnL c ++ (10 :: tx cs) := by simp [tx]
  rw [e] at ha he hn; rw [Zc, Ze] at he hn
  have ha2 : At s (i + (lnL c).length) (10 :: tx cs) := ha.right; obtain ⟨m, rfl⟩ : ∃ m, n = (m + 1) + (lnL c).length := ⟨n - 1 - (lnL c).length, by omega⟩
  rw [spl_skip s acc i (lnL c) i (m + 1) ha.left (fun b hb => (lnL_ne b hb).1)]
  have hs := ha2.size
  have hb := ha2.byt; simp only [Ze] at hs; rw [splS_L0, show decide (((i + (lnL c).length : Nat) : Int) < ((Zf s : Nat) : Int)) = true from decide_eq_true (by omega), hb]
  have hx : Zg s i (i + (lnL c).length) = lnB c := ha.left.ext
  have ih := spl_tx s cs (i + (lnL c).length + 1) m (acc ++ [lnB c]) ha2.tail (by omega) (by omega)
  show splS_L0 s m (acc ++ [Zg s i (i + (lnL c).length)]) (i + (lnL c).length + 1) (i + (lnL c).length + 1) = _; rw [hx, ih]; simp
theorem tx_mem {cs : List Nat} : ∀ b ∈ tx cs, b.toNat = 10 \/ (97 <= b.toNat /\ b.toNat <= 122) := by
 intro b hb; simp only [tx, List.mem_flatMap, List.mem_append, List.mem_singleton] at hb; obtain ⟨c, _, hb | rfl⟩ := hb
 ·exact .inr (lnL_ne b hb).2
 ·exact .inl rfl
theorem tx_cln (cs : List Nat) : ClnS (txB cs) := by
 intro j hj
 have hj : j < (tx cs).length := hj
 have e : (txB cs).data.toList = tx cs := by simp [txB]
 rw [Vob, e, List.getD_eq_getElem?_getD, Zb hj]; exact tx_mem _ (List.getElem_mem hj)
theorem splS_tx (cs : List Nat) : splS (txB cs) = cs.map lnB := by
 have ha : At (txB cs) 0 (tx cs) := by simpa [txB] using At.all (txB cs)
 have hz : (txB cs).size = (tx cs).length := rfl
 have h := spl_tx (txB cs) cs 0 (((txB cs).size - 0) + 1) [] ha (by omega) (by omega); rw [List.nil_append] at h; exact h
theorem clean_to (cs : List Nat) (hs : (tx cs).length <= 262144) : CallTo Tryz.prog 12 [jS (txB cs)] [] [] (jS (txB cs)) [] [] := by
 have hz : (txB cs).size = (tx cs).length := rfl
 by_cases h0 : (tx cs).length = 0
 ·have : txB cs = ⟨#[]⟩ := by
   unfold txB; rw [List.length_eq_zero_iff.1 h0]
  rw [this]; exact cln0_to
 ·exact cln_to (txB cs) (by omega) (by omega) (tx_cln cs)
theorem doc_to (cs : List Nat) (rs : List (List Nat)) (hR : Runs cs rs) (hcs : ∀ c ∈ cs, c < 17) (hl : cs.length <= 10000) (hs : (tx cs).length <= 262144) (hz : szB rs <= 32768) :
  CallTo Tryz.prog 6 [jS (txB cs)] [] [] (.av (.tup [.agg [.sl [], .sl ((rs.map plB).map Vae)], vI 0])) [] [] := by
 have hd : decide ((((txB cs).size : Nat) : Int) > 262144) = false := dF (by have hz : (txB cs).size = (tx cs).length := rfl; omega)
 have hcl := clean_to cs hs
 have hsp := splS_to (txB cs) (by have hz : (txB cs).size = (tx cs).length := rfl; omega); rw [splS_tx, show (cs.map lnB).map Vah = lsA cs by rw [List.map_map]; rfl] at hsp
 have hme := meta_to cs hcs (by omega)
 have hbl := bls_to cs rs hR hcs hl hz
 have hlq := Vf9 cs
 have hsl : 0 <= (0 : Int) /\ (0 : Int) <= (((lsA cs).length : Nat) : Int) /\ (((lsA cs).length : Nat) : Int) <= (((lsA cs).length : Nat) : Int) /\ Uni 1 (lsA cs) := ⟨Int.le_refl _, by omega, Int.le_refl _, by
  intro y hy; obtain ⟨c, _, rfl⟩ := List.mem_map.1 hy
  exact ⟨rfl, rfl⟩⟩
 have hsw : ((lsA cs).drop (0 : Int).toNat).take ((((lsA cs).length : Nat) : Int).toNat - (0 : Int).toNat) = lsA cs := by simp
 refine bG Tryz.func6 ?_; refine gO (tn 5 (kb hd (tn 1 (kc hcl (kc hsp (tn 2 (kc hme (tn 7 (kp hsl (kw hsw (kc hbl (tn 7 (kb (b := false) (d := false) rfl (tn 5 z)))))))))))))) ?_; exact eN
end Go.Proofs.YtnpedjbgchdkbaaGreatDoor
set_option maxRecDepth 100000
namespace Go.Proofs.YtnpedjbgchdkbaaGreatDoor
open Go Go.Eng
theorem Vbf (s : ByteArray) : eqs s s = true := by simp [eqs]
theorem Vfa {α : Type} [Inhabited α] (f : α -> AV) (l : List α) (F : Nat -> Nat -> Bool) (hF : ∀ n i, i < l.length -> F (n + 1) i = cond (decide (((i : Nat) : Int) < ((lenM f l : Nat) : Int))) (F n (i + 1)) true)
  (hz : ∀ n i, ¬ i < l.length -> F (n + 1) i = true) : ∀ (n i : Nat), l.length - i < n -> F n i = true
 | 0, i, h => by omega
 | n + 1, i, h => by
  have hl := Va2 f l
  by_cases hi : i < l.length
  ·rw [hF n i hi, dT (by omega), cond_true, Vfa f l F hF hz n _ (by omega)]
  ·exact hz n i hi
theorem Vce (a : Int) : (a != a) = false := by simp
theorem Vjj (a : List ByteArray) : textsB a a = true := by
 unfold textsB; rw [Vce, cond_false]; refine Vfa Vah a (textsB_L0 a a) (fun n i hi => ?_) (fun n i hi => ?_) _ _ (by omega)
 ·rw [textsB_L0, Vbf]; rfl
 ·have hl := Va2 Vah a; rw [textsB_L0, dF (by omega)]; rfl
theorem pairsB_self (a : List DPair) : pairsB a a = true := by
 unfold pairsB; rw [Vce, cond_false]; refine Vfa Vb4 a (pairsB_L0 a a) (fun n i hi => ?_) (fun n i hi => ?_) _ _ (by omega)
 ·rw [pairsB_L0, Vbf, Vbf]; rfl
 ·have hl := Va2 Vb4 a; rw [pairsB_L0, dF (by omega)]; rfl
theorem Vqo (a : DAttr) : atsB a a = true := by unfold atsB; rw [Vbf, Vjj, pairsB_self]; rfl
theorem samLS_self (rec : List DInline -> List DInline -> Bool) (a : List DInline) (hr : ∀ x ∈ a, rec x.fKids x.fKids = true) : samLS rec a a = true := by
 unfold samLS; rw [Vce, cond_false]
 have hin : ∀ (v5 : Nat) (k0 : Nat -> Bool) (n w : Nat), (el a v5).fCites.length - w < n -> samLS_L1 rec a a v5 k0 n w = k0 (v5 + 1) := by
  intro v5 k0 n
  induction n with
  | zero => intro w h; omega
  | succ n ih =>
   intro w h
   have hl := Va2 Van (el a v5).fCites; rw [samLS_L1]
   by_cases hi : w < (el a v5).fCites.length
   ·rw [dT (by omega), cond_true, Vbf, Vbf, Vbf, beq_self_eq_true, ih _ (by omega)]; rfl
   ·rw [dF (by omega)]; rfl
 refine Vfa Va1 a (samLS_L0 rec a a) (fun n i hi => ?_) (fun n i hi => ?_) _ _ (by omega)
 ·rw [samLS_L0, Vce, Vbf, Vbf, Vbf, Vqo, Vjj, Vce, hr _ (Vff hi), hin _ _ _ _ (by omega)]; rfl
 ·have hl := Va2 Va1 a; rw [samLS_L0, dF (by omega)]; rfl
theorem Vm3 : ∀ (n : Nat) (a : List DInline), wl Var a < n -> samLN n a a = true
 | 0, a, h => by omega
 | n + 1, a, h => by
  rw [samLN]; refine samLS_self _ a (fun x hx => ?_)
  have h1 := wl_mem (w := Var) hx
  have h2 := Vdm x; exact Vm3 n x.fKids (by omega)
theorem samL_self (a : List DInline) : samL a a = true := Vm3 _ a (by omega)
theorem samBS_self (rec : List DBlock -> List DBlock -> Bool) (a : List DBlock) (hr : ∀ x ∈ a, rec x.fKids x.fKids = true) : samBS rec a a = true := by
 unfold samBS; rw [Vce, cond_false]; refine Vfa Vae a (samBS_L0 rec a a) (fun n i hi => ?_) (fun n i hi => ?_) _ _ (by omega)
 ·rw [samBS_L0, Vce, Vce, Vbf, Vbf, Vbf, Vbf, Vqo, samL_self, hr _ (Vff hi)]; rfl
 ·have hl := Va2 Vae a; rw [samBS_L0, dF (by omega)]; rfl
theorem Vm4 : ∀ (n : Nat) (a : List DBlock), wl Vax a < n -> samBN n a a = true
 | 0, a, h => by omega
 | n + 1, a, h => by
  rw [samBN]; refine samBS_self _ a (fun x hx => ?_)
  have h1 := wl_mem (w := Vax) hx
  have h2 := Vex x; exact Vm4 n x.fKids (by omega)
theorem samB_self (a : List DBlock) : samB a a = true := Vm4 _ a (by omega)
theorem wl_le {α : Type} {w : α -> Nat} {k : Nat} : ∀ (l : List α), (∀ x ∈ l, w x <= k) -> wl w l <= l.length * (k + 1) + 1
 | [], _ => by simp [wl]
 | x :: l, h => by
  have h1 := h x (by simp)
  have h2 := wl_le l (fun y hy => h y (by simp [hy])); simp only [wl, Ze, Nat.add_mul, Nat.one_mul] at h2 ⊢; omega
theorem wI_le (u : List Nat) : ∀ x ∈ pL u, Var x <= 100 := by
 intro x hx; rcases pL_all u x hx with rfl | ⟨c, rfl⟩
 ·decide
 ·rw [Vdm]
  show 1 + w1 (1 : Int) + 3 + wStr (⟨#[]⟩ : ByteArray) + wStr (⟨#[]⟩ : ByteArray) + Vg0 ⟨⟨#[]⟩, [], []⟩ + (wl wStr) [] + (wl Vjd) [] + (wl Var) [] <= 100
  decide
theorem wB_le (rs : List (List Nat)) (h : ∀ u ∈ rs, u.length <= 1000) (hl : rs.length <= 1000) : wl Vax (rs.map plB) <= 1073741824 := by
 have hb : ∀ x ∈ rs.map plB, Vax x <= 300000 := by
  intro x hx; obtain ⟨u, hu, rfl⟩ := List.mem_map.1 hx
  have h1 := wl_le (pL u) (wI_le u)
  have h2 := Vgw u
  have h3 := h u hu; rw [Vex]
  have e : Vax (plB u) = Vax (plB u) := rfl
  have h4 : (pL u).length * 101 <= 2000 * 101 := Nat.mul_le_mul_right _ (by omega)
  show 1 + w1 (1 : Int) + w1 (0 : Int) + wStr e0 + wStr e0 + wStr e0 + wStr e0 + Vg0 ⟨e0, [], []⟩ + (wl Var) (pL u) + (wl Vax) [] <= 300000
  have h5 : 1 + w1 (1 : Int) + w1 (0 : Int) + wStr e0 + wStr e0 + wStr e0 + wStr e0 + Vg0 ⟨e0, [], []⟩ + (wl Vax) [] <= 100 := by decide
  omega
 have h1 := wl_le (rs.map plB) hb; rw [Za] at h1
 have h2 : rs.length * 300001 <= 1000 * 300001 := Nat.mul_le_mul_right _ hl; omega
def aByt (b : UInt8) : AV := .val (.int .u8 ((b.toNat : Nat) : Int))
def aGrp (g : List UInt8) : AV := .sl (g.map aByt)
theorem el_byt (l : List UInt8) (v : Nat) (h : v < l.length) : 0 <= ((v : Nat) : Int) /\ (l.map aByt)[((v : Nat) : Int).toNat]? = some (aByt (el l v)) := by
 refine ⟨by omega, ?_⟩; rw [Int.toNat_natCast, Zj, Zb h]; simp [el, h]
theorem el_grp (l : List (List UInt8)) (v : Nat) (h : v < l.length) : 0 <= ((v : Nat) : Int) /\ (l.map aGrp)[((v : Nat) : Int).toNat]? = some (.sl ((el l v).map aByt)) := by
 refine ⟨by omega, ?_⟩; rw [Int.toNat_natCast, Zj, Zb h]; simp [el, h, aGrp]
def cdB (b : UInt8) : Nat := b.toNat % 16
def cdG (g : List UInt8) : List Nat := g.map cdB
theorem cdB_lt (b : UInt8) : cdB b < 16 := Nat.mod_lt _ (by decide)
def cds (gs : List (List UInt8)) : List Nat := gs.flatMap (fun g => cdG g ++ [16])
def grs (gs : List (List UInt8)) : List (List Nat) := (gs.map cdG).filter (fun u => decide (0 < u.length))
theorem Vnj : ∀ gs : List (List UInt8), Runs (cds gs) (grs gs)
 | [] => .nil
 | g :: gs => by
  have ih := Vnj gs
  have e : cds (g :: gs) = cdG g ++ 16 :: cds gs := by simp [cds]
  rw [e]
  by_cases h0 : 0 < (cdG g).length
  ·have e2 : grs (g :: gs) = cdG g :: grs gs := by simp only [grs, Zi]; rw [List.filter_cons_of_pos (by simpa using h0)]
   rw [e2]; refine .para h0 (fun c hc => ?_) (.inr ⟨_, rfl⟩) (.blank ih); obtain ⟨b, _, rfl⟩ := List.mem_map.1 hc; exact cdB_lt b
  ·have e2 : grs (g :: gs) = grs gs := by simp only [grs, Zi]; rw [List.filter_cons_of_neg (by simpa using h0)]
   have e3 : cdG g = [] := List.length_eq_zero_iff.1 (by omega); rw [e2, e3]; exact .blank ih
theorem cds_lt (gs : List (List UInt8)) : ∀ c ∈ cds gs, c < 17 := by
 intro c hc; simp only [cds, List.mem_flatMap, List.mem_append, List.mem_singleton, cdG, List.mem_map] at hc; obtain ⟨g, _, ⟨b, _, rfl⟩ | rfl⟩ := hc
 ·have := cdB_lt b; omega
 ·decide
theorem cds_snoc (gs : List (List UInt8)) (g : List UInt8) : cds (gs ++ [g]) = cds gs ++ cdG g ++ [16] := by simp [cds]
theorem cds_len : ∀ gs : List (List UInt8), (∀ g ∈ gs, g.length <= 8) -> (cds gs).length <= 9 * gs.length
 | [], _ => Zk _
 | g :: gs, h => by
  have ih := cds_len gs (fun x hx => h x (by simp [hx]))
  have := h g (by simp)
  have e : cds (g :: gs) = cdG g ++ 16 :: cds gs := by simp [cds]
  rw [e, Zc, Ze, Ze, cdG, Za]; omega
theorem tx_app (a b : List Nat) : tx (a ++ b) = tx a ++ tx b := by simp [tx]
theorem tx_len (cs : List Nat) : (tx cs).length <= 3 * cs.length := by
 induction cs with
 | nil => exact Zk _
 | cons c cs ih =>
  have e : tx (c :: cs) = lnL c ++ (10 :: tx cs) := by simp [tx]
  have h : (lnL c).length <= 2 := by
   unfold lnL
   split
   ·exact Zk _
   ·exact Nat.zero_le _
  rw [e, Zc, Ze, Ze]; omega
theorem txB_word (cs : List Nat) {c : Nat} (h : c < 16) : (txB cs ++ ⟨(wL c).toArray⟩) ++ ⟨#[10]⟩ = txB (cs ++ [c]) := by
 unfold txB; rw [tx_app]
 have e : tx [c] = wL c ++ [10] := by simp [tx, lnL, h]
 rw [e]; apply ByteArray.ext; apply Array.toList_inj.1; simp
theorem txB_blank (cs : List Nat) : txB cs ++ ⟨#[10]⟩ = txB (cs ++ [16]) := by
 unfold txB; rw [tx_app]
 have e : tx [16] = [10] := by simp [tx, lnL]
 rw [e]; apply ByteArray.ext; apply Array.toList_inj.1; simp
theorem pL_snoc : ∀ (cs : List Nat) (c : Nat), pL (cs ++ [c]) = if cs.length = 0 then [tW c] else pL cs ++ [sfI] ++ [tW c]
 | [], c => rfl
 | [d], c => rfl
 | d :: e :: cs, c => by
  have ih := pL_snoc (e :: cs) c; rw [if_neg (by simp)] at ih ⊢
  have e1 : pL (d :: e :: cs ++ [c]) = tW d :: sfI :: pL (e :: cs ++ [c]) := rfl
  have e2 : pL (d :: e :: cs) = tW d :: sfI :: pL (e :: cs) := rfl; rw [e1, e2, ih]; simp
def ABC : ByteArray := ⟨#[97, 98, 99, 100, 101, 102, 103, 104, 105, 106, 107, 108, 109, 110, 111, 112]⟩
theorem word_ex {c : Nat} (h : c < 16) : (⟨#[119]⟩ : ByteArray) ++ ABC.extract c (c + 1) = ⟨(wL c).toArray⟩ := by
 have k : (List.range 16).all (fun c => decide (((⟨#[119]⟩ : ByteArray) ++ ABC.extract c (c + 1)).data.toList = wL c)) = true := by kernel_rfl
 have := of_decide_eq_true (Zm.1 k c (List.mem_range.2 h)); apply ByteArray.ext; apply Array.toList_inj.1; simpa using this
theorem text_to (t : ByteArray) : CallTo Tryz.prog 5 [jS t] [] [] (.av (Va8 (txI t))) [] [] := by
 refine bG Tryz.func5 ?_; refine gO (tn 4 z) ?_; exact eN
def pqA (u : List Nat) : AV := Vae (plB u)
def lwS (l : List (List UInt8)) (i k : Nat) (s : ByteArray) (os : List AV) : St := sx 103 [(0, jL (l.map aGrp)), (3, jS s), (4, .vs 4 k), (5, jI ((i : Nat) : Int))] [(4, .vec 36 11 os)] []
def liS (l : List (List UInt8)) (i k : Nat) (s : ByteArray) (os : List AV) (j m : Nat) (os2 : List AV) : St := sx 103 [(0, jL (l.map aGrp)), (3, jS s), (4, .vs 4 k), (5, jI ((i : Nat) : Int)), (6, .vs 6 m), (7, jI ((j : Nat) : Int))] [(4, .vec 36 11 os), (6, .vec 33 10 os2)] []
theorem pw_to (l : List (List UInt8)) : CallTo Tryz.prog 3 [jL (l.map aGrp)] [] [] (jB true) [] [] := by
 have ha := awake_to
 have hml : (l.map aGrp).length = l.length := Za ..; refine bG Tryz.func3 ?_
 by_cases h8 : l.length > 8
 ·have hd8 : decide ((((l.map aGrp).length : Nat) : Int) > 8) = true := dT (by omega); refine gO (tn 4 (kb hd8 (kc ha (tn 1 z)))) ?_; exact eN
 have hd8 : decide ((((l.map aGrp).length : Nat) : Int) > 8) = false := dF (by omega); refine gO (tn 4 (kb hd8 (tn 3 z))) ?_; refine TELL 4 4 36 11 (by kernel_rfl) ?_; refine LP (n := l.length + 1) (fun N M S => ∃ (i : Nat), i <= l.length /\ (∀ g ∈ l.take i, g.length <= 8) /\ l.length - i < N /\ M = () /\ S = lwS l i (grs (l.take i)).length (txB (cds (l.take i))) ((grs (l.take i)).map pqA)) (by kernel_rfl) ⟨0, by omega, by simp, by omega, rfl, rfl⟩ (WK (by kernel_rfl)) ?_; rintro n0 M S ⟨i, hi, hg8, hF0, rfl, rfl⟩; obtain ⟨n0, rfl⟩ : ∃ k, n0 = k + 1 := ⟨n0 - 1, by omega⟩
 by_cases h1 : i < l.length
 ·have hd : decide (((i : Nat) : Int) < (((l.map aGrp).length : Nat) : Int)) = true := dT (by omega)
  have he := el_grp l i h1; obtain ⟨g, hgd⟩ : ∃ g, g = el l i := ⟨_, rfl⟩
  rw [<- hgd] at he
  have hgl : (g.map aByt).length = g.length := Za ..
  have htk : l.take (i + 1) = l.take i ++ [g] := by rw [hgd]; exact tk_elG h1
  by_cases h2 : g.length > 8
  ·have hdg : decide ((((g.map aByt).length : Nat) : Int) > 8) = true := dT (by omega); refine gO (tn 4 (kb hd (tn 2 (ke he (tn 3 (kb hdg (kc ha (tn 1 z)))))))) ?_; refine OUT z (by kernel_rfl) ?_; exact eN
  have hdg : decide ((((g.map aByt).length : Nat) : Int) > 8) = false := dF (by omega)
  have hg8' : ∀ x ∈ l.take (i + 1), x.length <= 8 := by
   intro x hx; rw [htk] at hx; rcases List.mem_append.1 hx with hx | hx
   ·exact hg8 x hx
   ·rw [List.mem_singleton] at hx; subst hx; omega
  have hcl := cds_len (l.take i) hg8
  have hcl2 : (l.take i).length <= 8 := by rw [Zl]; omega
  obtain ⟨cs0, hcs0⟩ : ∃ cs0, cs0 = cds (l.take i) := ⟨_, rfl⟩
  rw [<- hcs0] at hcl
  have hrl := (Vnj (l.take i)).len; rw [<- hcs0] at hrl; refine gO (tn 4 (kb hd (tn 2 (ke he (tn 3 (kb hdg (tn 2 z))))))) ?_; refine TELL 6 6 33 10 (by kernel_rfl) ?_; refine LP (n := g.length + 1) (fun N M S => ∃ (j : Nat), j <= g.length /\ g.length - j < N /\ M = () /\ S = liS l i (grs (l.take i)).length (txB (cs0 ++ cdG (g.take j))) ((grs (l.take i)).map pqA) j (pL (cdG (g.take j))).length ((pL (cdG (g.take j))).map Va1)) (by kernel_rfl) ⟨0, by omega, by omega, rfl, rfl⟩ (by rw [show cs0 ++ cdG (g.take 0) = cds (l.take i) by rw [hcs0]; simp [cdG]]; exact WK (by kernel_rfl)) ?_; rintro n1 M S ⟨j, hj, hF1, rfl, rfl⟩; obtain ⟨n1, rfl⟩ : ∃ k, n1 = k + 1 := ⟨n1 - 1, by omega⟩
  obtain ⟨m, hm⟩ : ∃ m, m = (pL (cdG (g.take j))).length := ⟨_, rfl⟩
  obtain ⟨os2, hos2⟩ : ∃ os2, os2 = (pL (cdG (g.take j))).map Va1 := ⟨_, rfl⟩
  obtain ⟨s, hsd⟩ : ∃ s, s = txB (cs0 ++ cdG (g.take j)) := ⟨_, rfl⟩
  rw [<- hm, <- hos2, <- hsd]
  have hol2 : os2.length = m := by rw [hos2, Za, hm]
  have hcj : (cdG (g.take j)).length = j := by rw [cdG, Za, Zl]; omega
  have hmj : m = 2 * j - 1 := by rw [hm, Vgw, hcj]
  have hssz : s.size <= 1000 := by
   rw [hsd]
   show (tx (cs0 ++ cdG (g.take j))).length <= _
   have := tx_len (cs0 ++ cdG (g.take j)); rw [Zc, hcj] at this; omega
  by_cases h3 : j < g.length
  ·have hdj : decide (((j : Nat) : Int) < (((g.map aByt).length : Nat) : Int)) = true := dT (by omega)
   have hb := el_byt g j h3; obtain ⟨b, hbd⟩ : ∃ b, b = el g j := ⟨_, rfl⟩
   rw [<- hbd] at hb
   have hbl := b.toNat_lt
   have hcb := cdB_lt b
   have hmod : Int.tmod ((b.toNat : Nat) : Int) 16 = ((cdB b : Nat) : Int) := by
    rw [Int.tmod_eq_emod_of_nonneg (by omega)]; unfold cdB; omega
   have h16 : (16 : Int) ≠ 0 := by decide
   have wa : IntKind.u8.wrap (Int.tmod ((b.toNat : Nat) : Int) 16 + 1) = ((cdB b + 1 : Nat) : Int) := by
    rw [hmod]; simp only [IntKind.wrap, IntKind.signed, IntKind.bits]; simp; omega
   have hsl : 0 <= Int.tmod ((b.toNat : Nat) : Int) 16 /\ Int.tmod ((b.toNat : Nat) : Int) 16 <= ((cdB b + 1 : Nat) : Int) /\ ((cdB b + 1 : Nat) : Int) <= ((ABC.size : Nat) : Int) := by
    rw [hmod]
    have : ABC.size = 16 := rfl; omega
   obtain ⟨w, hwd⟩ : ∃ w, w = (⟨#[119]⟩ : ByteArray) ++ ABC.extract (Int.tmod ((b.toNat : Nat) : Int) 16).toNat ((cdB b + 1 : Nat) : Int).toNat := ⟨_, rfl⟩
   have hww : w = ⟨(wL (cdB b)).toArray⟩ := by rw [hwd, hmod]; exact word_ex hcb
   have hws : w.size = 2 := by rw [hww]; rfl
   have hsz : (((ByteArray.mk #[119]).size + (ABC.extract (Int.tmod ((b.toNat : Nat) : Int) 16).toNat ((cdB b + 1 : Nat) : Int).toNat).size : Nat) : Int) <= IntKind.i64.max := by
    rw [show IntKind.i64.max = 9223372036854775807 from rfl]
    have e := hws; rw [hwd, ByteArray.size_append] at e; omega
   have hz10 : (ByteArray.mk #[10]).size = 1 := rfl
   have hs1 : ((s.size + w.size : Nat) : Int) <= IntKind.i64.max := by rw [show IntKind.i64.max = 9223372036854775807 from rfl]; omega
   have hs2 : (((s ++ w : ByteArray).size + (ByteArray.mk #[10]).size : Nat) : Int) <= IntKind.i64.max := by rw [show IntKind.i64.max = 9223372036854775807 from rfl, ByteArray.size_append]; omega
   have ht := text_to w
   have wj := wrE (((j : Nat) : Int) + 1) ((j + 1 : Nat) : Int) (by omega); rw [hwd] at hs1 hs2 ht
   have hut := uniI (txI w); rw [hwd] at hut; refine gO (tn 3 (ke he (tn 3 (kb hdj z)))) ?_
   have hst : g.take (j + 1) = g.take j ++ [b] := by rw [hbd]; exact tk_elG h3
   have hpn : pL (cdG (g.take (j + 1))) = if j = 0 then [tW (cdB b)] else pL (cdG (g.take j)) ++ [sfI] ++ [tW (cdB b)] := by
    rw [hst]
    have := pL_snoc (cdG (g.take j)) (cdB b); rw [hcj] at this; rw [<- this]; simp [cdG]
   have hsn : (s ++ w) ++ ⟨#[10]⟩ = txB (cs0 ++ cdG (g.take (j + 1))) := by
    rw [hsd, hww, txB_word _ hcb, hst]; congr 1; simp [cdG]
   have htw : txI w = tW (cdB b) := by rw [hww]; rfl
   by_cases h0 : 0 < j
   ·have hk0 : decide (((j : Nat) : Int) > 0) = true := dT (by omega)
    have hu2 := uniI sfI
    have hap : m <= os2.length /\ Uni 10 [Va8 sfI] /\ (m + ([Va8 sfI] : List AV).length) * 192 <= 140737488355328 := ⟨by omega, hu2, by simp; omega⟩
    have hap2 : m + 1 <= (os2.take m ++ [Va8 sfI]).length /\ Uni 10 [Va8 (txI w)] /\ (m + 1 + ([Va8 (txI w)] : List AV).length) * 192 <= 140737488355328 := ⟨by simp; omega, uniI _, by simp; omega⟩
    rw [hwd] at hap2; refine DR3 (ko (eO he) (tn 2 (kp he (ko (eO hb) (tn 2 (kp hb (tn 1 (kp h16 (ko (eO he) (tn 2 (kp he (ko (eO hb) (tn 2 (kp hb (tn 1 (kp h16 (ko (nO wa) (kp wa (kp hsl (kp hsz (tn 3 (kp hs1 (kp hs2 (tn 3 (kb hk0 (tn 2 (kp hu2 (kp hap (tn 3 (kc ht (kp hut (kp hap2 (tn 2 (kn wj (tn 1 z))))))))))))))))))))))))))))))))))) (by kernel_rfl) (by kernel_rfl) (by kernel_rfl) ?_; refine AG (m := n1) (S'' := liS l i (grs (l.take i)).length ((s ++ w) ++ ⟨#[10]⟩) ((grs (l.take i)).map pqA) (j + 1) (m + 1 + 1) ((os2.take m ++ [Va8 sfI]).take (m + 1) ++ [Va8 (txI w)])) ⟨j + 1, by omega, by omega, rfl, ?_⟩ (by rw [hwd]; exact WK (by kernel_rfl)) (by kernel_rfl) (Zd _); rw [hsn, htw, hpn, if_neg (by omega)]; congr 1
    ·simp [hm]
    ·rw [Zh (l := os2) (by omega), Zh (by simp; omega), hos2]; simp [Vb3]; exact ⟨rfl, rfl⟩
   ·have hj0 : j = 0 := by omega
    have hk0 : decide (((j : Nat) : Int) > 0) = false := dF (by omega)
    have hap2 : m <= os2.length /\ Uni 10 [Va8 (txI w)] /\ (m + ([Va8 (txI w)] : List AV).length) * 192 <= 140737488355328 := ⟨by omega, uniI _, by simp; omega⟩
    rw [hwd] at hap2; refine DR3 (ko (eO he) (tn 2 (kp he (ko (eO hb) (tn 2 (kp hb (tn 1 (kp h16 (ko (eO he) (tn 2 (kp he (ko (eO hb) (tn 2 (kp hb (tn 1 (kp h16 (ko (nO wa) (kp wa (kp hsl (kp hsz (tn 3 (kp hs1 (kp hs2 (tn 3 (kb hk0 (tn 2 (kc ht (kp hut (kp hap2 (tn 2 (kn wj (tn 1 z)))))))))))))))))))))))))))))))) (by kernel_rfl) (by kernel_rfl) (by kernel_rfl) ?_; refine AG (m := n1) (S'' := liS l i (grs (l.take i)).length ((s ++ w) ++ ⟨#[10]⟩) ((grs (l.take i)).map pqA) (j + 1) (m + 1) (os2.take m ++ [Va8 (txI w)])) ⟨j + 1, by omega, by omega, rfl, ?_⟩ (by rw [hwd]; exact WK (by kernel_rfl)) (by kernel_rfl) (Zd _)
    have hm0 : m = 0 := by omega
    have ho0 : os2 = [] := List.length_eq_zero_iff.1 (by omega); rw [hsn, htw, hpn, if_pos hj0, hm0, ho0]; congr 1
  ·have hdj : decide (((j : Nat) : Int) < (((g.map aByt).length : Nat) : Int)) = false := dF (by omega)
   have hjl : j = g.length := by omega
   have hgt : g.take j = g := by rw [hjl, List.take_length]
   rw [hgt] at hm hos2 hsd hcj
   have hz10 : (ByteArray.mk #[10]).size = 1 := rfl
   have hs1 : ((s.size + (ByteArray.mk #[10]).size : Nat) : Int) <= IntKind.i64.max := by rw [show IntKind.i64.max = 9223372036854775807 from rfl]; omega
   have wi := wrE (((i : Nat) : Int) + 1) ((i + 1 : Nat) : Int) (by omega)
   have hsn : s ++ ⟨#[10]⟩ = txB (cds (l.take (i + 1))) := by
    rw [hsd, txB_blank, htk, cds_snoc, hcs0]
   have hpl := Vgw (cdG g); rw [hcj] at hpl; refine gO (tn 3 (ke he (tn 3 (kb hdj z)))) ?_
   by_cases h0 : 0 < m
   ·have hm0 : decide (((m : Nat) : Int) > 0) = true := dT (by omega)
    have hgr : grs (l.take (i + 1)) = grs (l.take i) ++ [cdG g] := by
     rw [htk]; simp only [grs, Zp, Zi, Zr]; rw [List.filter_append, List.filter_cons_of_pos (by simpa using (show 0 < (cdG g).length by omega))]; rfl
    have hub := uniB (plB (cdG g))
    have hap : (grs (l.take i)).length <= ((grs (l.take i)).map pqA).length /\ Uni 11 [Vev (plB (cdG g))] /\ ((grs (l.take i)).length + ([Vev (plB (cdG g))] : List AV).length) * 192 <= 140737488355328 := ⟨by simp, hub, by simp; omega⟩
    refine OUT (tn 1 (kp hs1 (tn 4 (kb hm0 (kq 21 z))))) (by kernel_rfl) ?_; refine FRZ 6 6 (n := m) (l := os2) (l' := (pL (cdG g)).map Va1) (by kernel_rfl) (by omega) (by rw [Zh (by omega), hos2]) ?_; refine gO (tn 3 (kp hub (kp hap (tn 2 (kn wi (tn 1 z)))))) ?_; refine AG (m := n0) (S'' := lwS l (i + 1) ((grs (l.take i)).length + 1) (s ++ ⟨#[10]⟩) (((grs (l.take i)).map pqA).take (grs (l.take i)).length ++ [Vev (plB (cdG g))])) ⟨i + 1, by omega, hg8', by omega, rfl, ?_⟩ (WK (by kernel_rfl)) (by kernel_rfl) (Zd _)
    have e4 : ((grs (l.take i)).map pqA).take (grs (l.take i)).length = (grs (l.take i)).map pqA := Zh (by rw [Za]; exact Zk _); rw [hsn, hgr, e4]; congr 1
    ·rw [Zc]; rfl
    ·rw [Zp, List.map_singleton]
     show _ = _ ++ [Vae (plB (cdG g))]
     rw [Vd2]; rfl
   ·have hm0 : decide (((m : Nat) : Int) > 0) = false := dF (by omega)
    have hgr : grs (l.take (i + 1)) = grs (l.take i) := by
     rw [htk]; simp only [grs, Zp, Zi, Zr]; rw [List.filter_append, List.filter_cons_of_neg (by simpa using (show ¬ 0 < (cdG g).length by omega))]; simp
    refine OUT (tn 1 (kp hs1 (tn 4 (kb hm0 (tn 1 (kn wi (tn 1 z))))))) (by kernel_rfl) ?_; refine AG (m := n0) (S'' := lwS l (i + 1) (grs (l.take i)).length (s ++ ⟨#[10]⟩) ((grs (l.take i)).map pqA)) ⟨i + 1, by omega, hg8', by omega, rfl, ?_⟩ (WK (by kernel_rfl)) (by kernel_rfl) (Zd _); rw [hsn, hgr]
 ·have hd : decide (((i : Nat) : Int) < (((l.map aGrp).length : Nat) : Int)) = false := dF (by omega)
  have hil : i = l.length := by omega
  subst hil; rw [List.take_length] at hg8 ⊢
  have hcl := cds_len l hg8
  have htl := tx_len (cds l)
  have hR := Vnj l
  have hrl := hR.len
  have hrw := hR.words
  have hu8 : ∀ u ∈ grs l, u.length <= 8 := by
   intro u hu; simp only [grs, List.mem_filter, List.mem_map] at hu; obtain ⟨⟨g, hg, rfl⟩, _⟩ := hu; rw [cdG, Za]; exact hg8 g hg
  have hr8 : (grs l).length <= 8 := by
   refine Nat.le_trans (List.length_filter_le _ _) ?_; rw [Za]; omega
  have hzb : szB (grs l) <= 32768 := by
   have key : ∀ (rs : List (List Nat)) (a : Nat), (∀ u ∈ rs, u.length <= 8) -> rs.foldl (fun m u => m + (pL u).length) a <= a + 16 * rs.length := by
    intro rs
    induction rs with
    | nil => intro a _; exact Zk _
    | cons u rs ih =>
     intro a h
     have h1 := h u (by simp)
     have h2 := Vgw u
     have := ih (a + (pL u).length) (fun x hx => h x (by simp [hx])); simp only [List.foldl_cons, Ze]; omega
   have := key (grs l) (grs l).length hu8; unfold szB; omega
  have hdo := doc_to (cds l) (grs l) hR (cds_lt l) (by omega) (by omega) hzb
  have hwb := wB_le (grs l) (fun u hu => by have := hu8 u hu; omega) (by omega)
  have hsa := samB_to ((grs l).map plB) ((grs l).map plB) hwb hwb; rw [samB_self] at hsa
  have hpq : (grs l).map pqA = ((grs l).map plB).map Vae := by rw [List.map_map]; rfl
  refine gO (tn 4 (kb hd z)) ?_; refine OUT (kq 22 z) (by kernel_rfl) ?_; refine FRZ 4 4 (n := (grs l).length) (l := (grs l).map pqA) (l' := ((grs l).map plB).map Vae) (by kernel_rfl) (by simp) (by rw [Zh (by simp), hpq]) ?_; refine gO (tn 1 (kc hdo (tn 9 (kb (b := true) (d := true) rfl (tn 1 (kb (b := true) (d := true) rfl (tn 1 (kb (b := true) (d := true) rfl (tn 1 (kb (b := true) (d := true) rfl (tn 1 (kb (b := true) (d := true) rfl (tn 1 (kb (b := true) (d := true) rfl (tn 1 (kb (b := true) (d := true) rfl (tn 1 (kb (b := true) (d := true) rfl (tn 1 (kb (b := true) (d := true) rfl (kc hsa (kb (b := true) (d := true) rfl (tn 1 (kb (b := true) (d := true) rfl (kc ha (kb (b := true) (d := true) rfl (tn 1 z))))))))))))))))))))))))))) ?_; exact eN
end Go.Proofs.YtnpedjbgchdkbaaGreatDoor
namespace Go.Proofs.YtnpedjbgchdkbaaGreatDoor
open Go Go.Eng Go.ChangeShapes Go.WideShapes Go.ChangeAt Go.RowKit
section
variable {H : Type} (enc : TypeId × Value -> H) (P : Program) (w : World) (sp : Nat -> Bool) (held : Bool)
def Rd (n : Nat) (t : TypeId) {α : Type} (f : α -> List AV) (wt : α -> Nat) : Prop :=
 ∀ cs x, DataW.trod enc P w 0 sp held n t cs = some x -> ∃ a : α, RepL (U0 w) w (f a) cs /\ wt a <= Rows.uptoBulk x.1 /\ ∀ v ∈ cs, v.oneCell' = true
variable {enc P w sp held}
theorem add_add (a : Addr) (i j : Nat) : (a.add i).add j = a.add (i + j) := by
 obtain ⟨b, o, s⟩ := a; unfold Addr.add
 by_cases hi : i = 0
 ·subst hi; simp
 ·by_cases hj : j = 0
  ·subst hj; simp [hi]
  ·simp [hi, hj]; omega
theorem cells_get {a : Addr} {n : Nat} {cs : List Value} (h : w.cells? 0 a n = some cs) : cs.length = n /\ ∀ j, j < n -> w.cell? (a.add j) = cs[j]? := by
 unfold World.cells? at h; rw [if_pos (Nat.zero_le _)] at h; exact ⟨by simpa using mapM_some_length h, fun j hj => mapM_some_get h j j (by simp [hj])⟩
def One (sz : Nat) {α : Type} (f : α -> List AV) (g : α -> AV) : Prop :=
 ∀ (U : Nat -> Nat) (w : World) (a : α) (us : List Value), RepL U w (f a) us -> us.length = sz -> (∀ v ∈ us, v.oneCell' = true) -> ∃ u : Value, Rep U w (g a) u /\ u.cells.toList = us
theorem One_val {α : Type} (g : α -> AV) (v : α -> Value) (hg : ∀ a, g a = .val (v a)) (hc : ∀ a, (v a).cells = #[v a]) : One 1 (fun a => [g a]) g := fun U w a us h _ h1 => by
 simp only [RepL] at h; obtain ⟨u, us', rfl, h2, rfl⟩ := h; refine ⟨u, h2, ?_⟩; rw [hg] at h2; simp only [Rep] at h2; rw [h2.1, hc]
theorem slice_go {e : TypeId} {n sz : Nat} {α : Type} {f : α -> List AV} {g : α -> AV} {wt : α -> Nat} (hc : P.cellsOf e = sz) (hR : Rd enc P w sp held n e f wt) (hO : One sz f g) (a : Addr) :
  ∀ (elems : List (DataW H × List MemPlace)) (i0 : Nat), (∀ i, i < elems.length -> (w.cells? 0 (a.add ((i0 + i) * sz)) sz).bind (DataW.trod enc P w 0 sp held n e) = elems[i]?) ->
   ∃ (l : List α) (es : List Value), RepL (U0 w) w (l.map g) es /\ l.length = elems.length /\ (∀ v ∈ es, v.cells.size = sz) /\ wl wt l <= Rows.uptoBulkAll (elems.map (·.1)) /\
    ∀ j v, (Va0 es)[j]? = some v -> w.cell? (a.add (i0 * sz + j)) = some v /\ v.oneCell' = true
 | [], i0, _ => ⟨[], [], by simp [RepL], rfl, by simp, by simp [wl, Rows.uptoBulkAll], by simp [Va0]⟩
 | x :: elems, i0, h => by
  have h0 := h 0 (by simp); simp only [Nat.add_zero, List.getElem?_cons_zero, Option.bind_eq_some_iff] at h0; obtain ⟨cs, hcs, hx⟩ := h0; obtain ⟨hl, hget⟩ := cells_get hcs; obtain ⟨y, r1, r2, r3⟩ := hR cs x hx; obtain ⟨u, u1, u2⟩ := hO _ _ y cs r1 hl r3
  obtain ⟨l, es, k1, k2, k3, k4, k5⟩ := slice_go hc hR hO a elems (i0 + 1) (fun i hi => by
   have := h (i + 1) (by simpa using hi)
   rw [show i0 + 1 + i = i0 + (i + 1) by omega]; simpa using this)
  have hsz : u.cells.size = sz := by rw [<- Array.length_toList, u2, hl]
  refine ⟨y :: l, u :: es, by simp only [Zi, RepL]; exact ⟨_, _, rfl, u1, k1⟩, by simp [k2], ?_, by simp only [Zi, wl, Rows.uptoBulkAll]; omega, fun j v hj => ?_⟩
  ·intro v hv; simp only [List.mem_cons] at hv; rcases hv with rfl | hv
   ·exact hsz
   ·exact k3 v hv
  ·simp only [Va0, List.flatMap_cons, u2] at hj
   by_cases hjl : j < sz
   ·rw [Zn (by omega)] at hj
    have := hget j hjl; rw [add_add] at this; exact ⟨by rw [this, hj], r3 v (List.mem_of_getElem? hj)⟩
   ·rw [List.getElem?_append_right (by omega), hl] at hj
    have := k5 (j - sz) v hj; rw [show (i0 + 1) * sz + (j - sz) = i0 * sz + j by rw [Nat.add_mul]; omega] at this; exact this
theorem Rd_slice {t e : TypeId} {n sz : Nat} {α : Type} {f : α -> List AV} {g : α -> AV} {wt : α -> Nat} (ht : P.underlying t = some (.slice e)) (hc : P.cellsOf e = sz) (hz : 0 < sz) (hO : One sz f g) (hR : ∀ m, n = m + 1 -> Rd enc P w sp held m e f wt) :
  Rd enc P w sp held n t (fun l : List α => [.sl (l.map g)]) (wl wt) := fun cs x h => by
 rcases DataW.trod_slice ht h with ⟨rfl, rfl⟩ | ⟨a, len, cap, elems, rest, m, rfl, rfl, rfl, hb, hl, hm, hlen, hel, _, _⟩
 ·exact ⟨[], by simp only [Zr, RepL]; exact ⟨_, _, rfl, Rep_nil _ _, rfl⟩, by simp [wl, Rows.uptoBulk], by intro v hv; simp at hv; subst hv; rfl⟩
 ·obtain ⟨l, es, k1, k2, k3, k4, k5⟩ := slice_go hc (hR m rfl) hO a elems 0 (fun i hi => by rw [Nat.zero_add]; have := hel i (by omega); rw [hc] at this; exact this); refine ⟨l, ?_, by simp only [Rows.uptoBulk]; omega, by intro v hv; simp at hv; subst hv; rfl⟩; simp only [RepL]; refine ⟨_, _, rfl, ?_, rfl⟩; simp only [Rep]
  have hll : (l.map g).length = len := by simp; omega
  have hes : es.length = len := by have := k1.length; omega
  have hfirst : Va0 es ≠ [] -> a.spot = none := by
   intro hne; obtain ⟨v, r, hv⟩ := List.exists_cons_of_ne_nil hne
   have := (k5 0 v (by rw [hv]; rfl)).1; simp only [Nat.zero_mul, Nat.zero_add, Addr.add, if_true, World.cell?] at this
   split at this
   ·cases hs : a.spot with
    | none => rfl
    | some s => rw [hs] at this; simp at this
   ·simp at this
  refine ⟨some a, cap, es, sz, by rw [hll], k1, k3, by simp, by rw [hll]; exact hl, ?_, ?_⟩
  ·rintro hne ad ⟨⟩
   have hsz : sz ≠ 0 := by omega
   refine hfirst (fun q => ?_)
   have hz := Va3 es k3; rw [q] at hz; simp only [List.length_nil] at hz
   have : es.length = 0 := by
    rcases Nat.mul_eq_zero.1 hz.symm with h | h
    ·exact h
    ·exact absurd h hsz
   apply hne
   have : l.length = 0 := by omega
   simp [List.eq_nil_of_length_eq_zero this]
  ·by_cases hne : Va0 es = []
   ·exact .inl hne
   ·right
    have hs := hfirst hne; obtain ⟨b, off, s⟩ := a; simp only at hs; subst hs; refine ⟨b, off, rfl, ?_, fun j v hj => ?_⟩
    ·have hlen : 0 < (Va0 es).length := List.length_pos_iff.2 hne
     have hv := Zb (l := Va0 es) (i := (Va0 es).length - 1) (by omega)
     have := (k5 _ _ hv).1; rw [Nat.zero_mul, Nat.zero_add, addr_add] at this
     have := cell_U0 this; omega
    ·have := k5 j v hj; rw [Nat.zero_mul, Nat.zero_add, addr_add] at this; exact this
end
end Go.Proofs.YtnpedjbgchdkbaaGreatDoor
