/- Texts joined by a program (merge.py). -/
import Derived.Test.YtnpedjbgchdkbaaGreatDoorMpk
import Derived.Test.YtnpedjbgchdkbaaGreatDoorMpl
import Derived.Test.YtnpedjbgchdkbaaGreatDoorMpn
import Derived.Test.YtnpedjbgchdkbaaGreatDoorCards
import Derived.Test.YtnpedjbgchdkbaaGreatDoorTie
import Derived.ProofKit
import Derived.JoinedCond
import Derived.WalkKit
import Derived.OpenShut
import Derived.SevenTiedAt
import Derived.Carry
set_option linter.unusedSimpArgs false
set_option linter.unusedVariables false
set_option maxRecDepth 100000
set_option maxHeartbeats 4000000
namespace Go.Proofs.YtnpedjbgchdkbaaGreatDoor
open Go Go.Eng Go.ChangeShapes Go.WideShapes Go.ChangeAt Go.RowKit Go.ChangeMaps
theorem Rd_byt {H : Type} {enc : TypeId × Value -> H} {P : Program} {w : World} {sp : Nat -> Bool} {held : Bool} {t : TypeId} (ht : P.underlying t = some (.int .u8)) (n : Nat) : Rd enc P w sp held n t (fun b : UInt8 => [aByt b]) w1 := fun cs x h => by
 obtain ⟨m, rfl, rfl, hw⟩ := DataW.trod_int ht h
 have hb : (0 : Int) <= m /\ m <= 255 := by
  simp only [Lit.wf, Bool.and_eq_true, decide_eq_true_eq] at hw; exact hw
 have e : (((UInt8.ofNat m.toNat).toNat : Nat) : Int) = m := by
  rw [UInt8.toNat_ofNat']; omega
 refine ⟨UInt8.ofNat m.toNat, ?_, by simp [w1, Rows.uptoBulk], by intro v hv; simp at hv; subst hv; rfl⟩; simp only [RepL, aByt, Rep, e]; exact ⟨_, _, rfl, ⟨rfl, rfl⟩, rfl⟩
theorem Rd_byts {H : Type} {enc : TypeId × Value -> H} {w : World} {sp : Nat -> Bool} {held : Bool} (n : Nat) : Rd enc Tryz.prog w sp held n 25 (fun l : List UInt8 => [.sl (l.map aByt)]) (wl w1) :=
 Rd_slice (t := 25) (e := 5) (sz := 1) (g := aByt) (wt := w1) Tryz.underlying25 (by kernel_rfl) (by decide) (One_val aByt (fun b => .int .u8 (b.toNat : Int)) (fun _ => rfl) (fun _ => rfl)) (fun q2 _ => Rd_byt Tryz.underlying5 q2)
theorem One_sl {α : Type} (g : α -> List AV) : One 1 (fun a => [.sl (g a)]) (fun a => .sl (g a)) := fun U w a us h _ h1 => by
 simp only [RepL] at h; obtain ⟨u, us', rfl, h2, rfl⟩ := h; refine ⟨u, h2, ?_⟩; simp only [Rep] at h2; obtain ⟨a, cap, es, sz, rfl, _⟩ := h2; rfl
theorem Rd_grps {H : Type} {enc : TypeId × Value -> H} {w : World} {sp : Nat -> Bool} {held : Bool} (n : Nat) : Rd enc Tryz.prog w sp held n 22 (fun l : List (List UInt8) => [.sl (l.map aGrp)]) (wl (wl w1)) :=
 Rd_slice (t := 22) (e := 25) (sz := 1) (g := aGrp) (wt := wl w1) Tryz.underlying22 (by kernel_rfl) (by decide) (One_sl (fun l : List UInt8 => l.map aByt)) (fun q2 _ => Rd_byts q2)
theorem in_reads (os : Os) {H : Type} (enc : TypeId × Value -> H) : ∃ Vi8, DataW.whole enc Tryz.prog ((World.laidAll Tryz.prog os Rows.parseWordsRow.laid).forCall (fun _ _ => 0) ⟨#[], #[.slice none 0 0], []⟩).memory Tryz.f3.params.toList Rows.parseWordsSpec.vars false #[Value.slice none 0 0].toList 8 = some ([.nil], [], Vi8) :=
 ⟨[], by kernel_rfl⟩
theorem Vhr (os : Os) (started : os.Started) (H : Type) (enc : TypeId × Value -> H) (F : Stop.Interp) :
  ReturnsInHanded {} Tryz.checked os 3 .any ((OpenSpec.ofChange Rows.parseWordsSpec).preRow enc Tryz.prog Tryz.f3 Rows.parseWordsRow.domain false Rows.parseWordsRow.laid) (((OpenSpec.ofChange Rows.parseWordsSpec).at F).post enc Tryz.prog Tryz.f3 false true false false) := by
 obtain ⟨Vi8, hx⟩ := in_reads os enc; refine returnsInHanded_of_row (C := Tryz.checked) (s := OpenSpec.ofChange Rows.parseWordsSpec) Tryz.own started (by kernel_rfl) Tryz.func3
  (witness_row_atRef (enc := enc) (C := Tryz.checked) false (World.laidAll Tryz.prog os Rows.parseWordsRow.laid) #[.slice none 0 0] (World.laidAll_os _ _ _) (laid_vars os _) (laid_rest os _) (by kernel_rfl)
   (OpenSpec.preRow_of_cond 8 hx (by kernel_rfl) (fun k hk => by cases hk) (by kernel_rfl) (laid_met os _))) ?_
 intro W base args ds gs before hval0 hW _ hcond _ hL _ _
 have hval : ∀ (j : Nat) t v, Tryz.f3.params[j]? = some t -> args[j]? = some v -> Value.okWide Tryz.prog W .any base t v := hval0
 have hW' := hW; obtain ⟨p, q, hA0, hV, rfl, hfz, hnd⟩ := hW'
 have hA : DataW.TrodAll enc Tryz.prog W 0 (fun _ => true) true Tryz.f3.params.toList args.toList ds p := hA0; rw [Tryz.params3] at hA hval; obtain ⟨v0, d0, rfl, rfl, h0⟩ := trodAll_one hA; obtain ⟨rfl, rfl⟩ := trodVars_none hV; simp only [List.append_nil] at hW
 have hlt : ∀ x ∈ p, x.block < W.heap.size := fun x hx => by simpa using hW.lt x hx
 obtain ⟨a0, len0, cap0, rfl⟩ := okWide_slice Tryz.underlying22 (hval 0 22 v0 rfl rfl); obtain ⟨n0, f0⟩ := h0; obtain ⟨l, r0, w0, b0⟩ := Rd_grps n0 _ _ f0
 have hr : RepL (U0 W) W [.sl (l.map aGrp)] [.slice a0 len0 cap0] := by
  simp only [RepL] at r0 ⊢; obtain ⟨u, u', e1, r0, rfl⟩ := r0; simp only [Value.cells, List.cons.injEq, and_true] at e1; subst e1; exact ⟨_, _, rfl, r0, rfl⟩
 refine (law_calls (pw_to l) hr).mono fun e W' ⟨he, hb'⟩ => ?_
 subst he; refine ⟨_, rfl, _, _, _, [], p, [], hW, ?_, ?_, rfl, hb'.frame _, fun h => by cases h⟩
 ·exact trodAll_mk1 (shut_bool Tryz.underlying4 true)
 ·exact trodAll_mk1 (Below.trod Tryz.laidOut (by kernel_rfl) (of_decide_eq_true (by kernel_rfl)) ⟨n0, f0⟩ hb' (fun x hx => hlt x hx))
theorem Vjz : Rows.ParseWordsSaid :=
 OpenClaim.holds_of_cond 3 Tryz.f3 rfl rfl rfl rfl rfl rfl rfl ⟨rfl, rfl, rfl, rfl, rfl⟩ rfl rfl rfl rfl rfl (by kernel_rfl) Tryz.func3 pwf_all
  (of_decide_eq_true (by kernel_rfl)) (by unfold Func.isWrapper; first | (rw [if_pos (by decide +kernel)]; kernel_rfl) | (rw [if_neg (by decide +kernel)]; exact ⟨rfl, rfl⟩))
  (fun os started H enc _ F => by rw [OpenClaim.pre_eq_preRow]; exact Vhr os started H enc F)
end Go.Proofs.YtnpedjbgchdkbaaGreatDoor
