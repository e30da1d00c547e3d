/- Texts joined by a program (merge.py). -/
import Derived.Test.YthbpjmogdonlkaaGreatDoorMwl
import Derived.Test.YthbpjmogdonlkaaGreatDoorMwm
import Derived.Test.YthbpjmogdonlkaaGreatDoorMwo
import Derived.Test.YthbpjmogdonlkaaGreatDoorCards
import Derived.Test.YthbpjmogdonlkaaGreatDoorTie
import Derived.ProofKit
import Derived.JoinedCond
import Derived.WalkKit
import Derived.OpenShut
import Derived.SevenTiedAt
import Derived.Carry
set_option linter.unusedSimpArgs false
set_option linter.unusedVariables false
set_option maxRecDepth 100000
set_option maxHeartbeats 4000000
namespace Go.Proofs.YthbpjmogdonlkaaGreatDoor
open Go Go.Eng Go.ChangeShapes Go.WideShapes Go.ChangeAt Go.RowKit Go.ChangeMaps
theorem Rd_byt {H : Type} {enc : TypeId × Value -> H} {P : Program} {w : World} {sp : Nat -> Bool} {held : Bool} {t : TypeId} (ht : P.underlying t = some (.int .u8)) (n : Nat) : Rd enc P w sp held n t (fun b : UInt8 => [aByt b]) w1 := fun cs x h => by
 obtain ⟨m, rfl, rfl, hw⟩ := DataW.trod_int ht h
 have hb : (0 : Int) <= m /\ m <= 255 := by
  simp only [Lit.wf, Bool.and_eq_true, decide_eq_true_eq] at hw; exact hw
 have e : (((UInt8.ofNat m.toNat).toNat : Nat) : Int) = m := by
  rw [UInt8.toNat_ofNat']; omega
 refine ⟨UInt8.ofNat m.toNat, ?_, by simp [w1, Rows.uptoBulk], by intro v hv; simp at hv; subst hv; rfl⟩; simp only [RepL, aByt, Rep, e]; exact ⟨_, _, rfl, ⟨rfl, rfl⟩, rfl⟩
theorem Rd_byts {H : Type} {enc : TypeId × Value -> H} {w : World} {sp : Nat -> Bool} {held : Bool} (n : Nat) : Rd enc Tryz.prog w sp held n 33 (fun l : List UInt8 => [.sl (l.map aByt)]) (wl w1) :=
 Rd_slice (t := 33) (e := 5) (sz := 1) (g := aByt) (wt := w1) Tryz.underlying33 (by kernel_rfl) (by decide) (One_val aByt (fun b => .int .u8 (b.toNat : Int)) (fun _ => rfl) (fun _ => rfl)) (fun q2 _ => Rd_byt Tryz.underlying5 q2)
theorem in_reads (os : Os) {H : Type} (enc : TypeId × Value -> H) : ∃ Vhs, DataW.whole enc Tryz.prog ((World.laidAll Tryz.prog os Rows.inlineWordsRow.laid).forCall (fun _ _ => 0) ⟨#[], #[.slice none 0 0, .slice none 0 0], []⟩).memory Tryz.f6.params.toList Rows.inlineWordsSpec.vars false #[Value.slice none 0 0, Value.slice none 0 0].toList 8 = some ([.nil, .nil], [], Vhs) :=
 ⟨[], by kernel_rfl⟩
theorem Vgj (os : Os) (started : os.Started) (H : Type) (enc : TypeId × Value -> H) (F : Stop.Interp) :
  ReturnsInHanded {} Tryz.checked os 6 .any ((OpenSpec.ofChange Rows.inlineWordsSpec).preRow enc Tryz.prog Tryz.f6 Rows.inlineWordsRow.domain false Rows.inlineWordsRow.laid) (((OpenSpec.ofChange Rows.inlineWordsSpec).at F).post enc Tryz.prog Tryz.f6 false true false false) := by
 obtain ⟨Vhs, hx⟩ := in_reads os enc; refine returnsInHanded_of_row (C := Tryz.checked) (s := OpenSpec.ofChange Rows.inlineWordsSpec) Tryz.own started (by kernel_rfl) Tryz.func6
  (witness_row_atRef (enc := enc) (C := Tryz.checked) false (World.laidAll Tryz.prog os Rows.inlineWordsRow.laid) #[.slice none 0 0, .slice none 0 0] (World.laidAll_os _ _ _) (laid_vars os _) (laid_rest os _) (by kernel_rfl)
   (OpenSpec.preRow_of_cond 8 hx (by kernel_rfl) (fun k hk => by cases hk) (by kernel_rfl) (laid_met os _))) ?_
 intro W base args ds gs before hval0 hW _ hcond _ hL _ _
 have hval : ∀ (j : Nat) t v, Tryz.f6.params[j]? = some t -> args[j]? = some v -> Value.okWide Tryz.prog W .any base t v := hval0
 have hW' := hW; obtain ⟨p, q, hA0, hV, rfl, hfz, hnd⟩ := hW'
 have hA : DataW.TrodAll enc Tryz.prog W 0 (fun _ => true) true Tryz.f6.params.toList args.toList ds p := hA0; rw [Tryz.params6] at hA hval; obtain ⟨v0, v1, d0, d1, p0, p1, rfl, rfl, rfl, h0, h1⟩ := trodAll_two hA; obtain ⟨rfl, rfl⟩ := trodVars_none hV; simp only [List.append_nil] at hW
 have hlt : ∀ x ∈ p0 ++ p1, x.block < W.heap.size := fun x hx => by simpa using hW.lt x (by simpa using hx)
 obtain ⟨a0, len0, cap0, rfl⟩ := okWide_slice Tryz.underlying33 (hval 0 33 v0 rfl rfl); obtain ⟨a1, len1, cap1, rfl⟩ := okWide_slice Tryz.underlying33 (hval 1 33 v1 rfl rfl); obtain ⟨n0, f0⟩ := h0; obtain ⟨n1, f1⟩ := h1; obtain ⟨k, r0, w0, b0⟩ := Rd_byts n0 _ _ f0; obtain ⟨l, r1, w1', b1⟩ := Rd_byts n1 _ _ f1
 have hr : RepL (U0 W) W [.sl (k.map aByt), .sl (l.map aByt)] [.slice a0 len0 cap0, .slice a1 len1 cap1] := by
  simp only [RepL] at r0 r1 ⊢; obtain ⟨u, u', e1, r0, rfl⟩ := r0; simp only [Value.cells, List.cons.injEq, and_true] at e1; subst e1; obtain ⟨u3, u3', e3, r1, rfl⟩ := r1; simp only [Value.cells, List.cons.injEq, and_true] at e3; subst e3; exact ⟨_, _, rfl, r0, _, _, rfl, r1, rfl⟩
 refine (law_calls (words_to k l) hr).mono fun e W' ⟨he, hb'⟩ => ?_
 subst he; refine ⟨_, rfl, _, _, _, [], p0 ++ p1, [], hW, ?_, ?_, rfl, hb'.frame _, fun h => by cases h⟩
 ·exact trodAll_mk1 (shut_bool Tryz.underlying4 true)
 ·exact trodAll_mk2 (Below.trod Tryz.laidOut (by kernel_rfl) (of_decide_eq_true (by kernel_rfl)) ⟨n0, f0⟩ hb' (fun x hx => hlt x (by simp [hx]))) (Below.trod Tryz.laidOut (by kernel_rfl) (of_decide_eq_true (by kernel_rfl)) ⟨n1, f1⟩ hb' (fun x hx => hlt x (by simp [hx])))
theorem Vif : Rows.InlineWordsSaid :=
 OpenClaim.holds_of_cond 6 Tryz.f6 rfl rfl rfl rfl rfl rfl rfl ⟨rfl, rfl, rfl, rfl, rfl⟩ rfl rfl rfl rfl rfl (by kernel_rfl) Tryz.func6 iwf_all
  (of_decide_eq_true (by kernel_rfl)) (by unfold Func.isWrapper; first | (rw [if_pos (by decide +kernel)]; kernel_rfl) | (rw [if_neg (by decide +kernel)]; exact ⟨rfl, rfl⟩))
  (fun os started H enc _ F => by rw [OpenClaim.pre_eq_preRow]; exact Vgj os started H enc F)
end Go.Proofs.YthbpjmogdonlkaaGreatDoor
