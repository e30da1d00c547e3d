/- Texts joined by a program (merge.py). -/
import Derived.Test.YthbpjmogdonlkaaGreatDoorMdl
import Derived.Test.YthbpjmogdonlkaaGreatDoorMdm
import Derived.Test.YthbpjmogdonlkaaGreatDoorMdo
import Derived.Test.YthbpjmogdonlkaaGreatDoorCards
import Derived.Test.YthbpjmogdonlkaaGreatDoorTie
import Derived.ProofKit
import Derived.JoinedCond
import Derived.WalkKit
import Derived.OpenShut
import Derived.SevenTiedAt
import Derived.Carry
set_option linter.unusedSimpArgs false
set_option linter.unusedVariables false
set_option maxRecDepth 100000
set_option maxHeartbeats 4000000
namespace Go.Proofs.YthbpjmogdonlkaaGreatDoor
open Go Go.Eng Go.ChangeShapes Go.WideShapes Go.ChangeAt Go.RowKit Go.ChangeMaps
theorem Rd_byt {H : Type} {enc : TypeId × Value → H} {P : Program} {w : World} {sp : Nat → Bool} {held : Bool} {t : TypeId} (ht : P.underlying t = some (.int .u8)) (n : Nat) : Rd enc P w sp held n t (fun b : UInt8 => [aByt b]) w1 := fun cs x h => by
 obtain ⟨m, rfl, rfl, hw⟩ := DataW.trod_int ht h
 have hb : (0 : Int) ≤ m ∧ m ≤ 255 := by
  simp only [Lit.wf, Bool.and_eq_true, decide_eq_true_eq] at hw
  exact hw
 have e : (((UInt8.ofNat m.toNat).toNat : Nat) : Int) = m := by
  rw [UInt8.toNat_ofNat']
  omega
 refine ⟨UInt8.ofNat m.toNat, ?_, by simp [w1, Rows.uptoBulk], by intro v hv; simp at hv; subst hv; rfl⟩
 simp only [RepL, aByt, Rep, e]
 exact ⟨_, _, rfl, ⟨rfl, rfl⟩, rfl⟩
theorem Rd_byts {H : Type} {enc : TypeId × Value → H} {w : World} {sp : Nat → Bool} {held : Bool} (n : Nat) : Rd enc Tryz.prog w sp held n 33 (fun l : List UInt8 => [.sl (l.map aByt)]) (wl w1) :=
 Rd_slice (t := 33) (e := 5) (sz := 1) (g := aByt) (wt := w1) Tryz.underlying33 (by kernel_rfl) (by decide) (One_val aByt (fun b => .int .u8 (b.toNat : Int)) (fun _ => rfl) (fun _ => rfl)) (fun q2 _ => Rd_byt Tryz.underlying5 q2)
theorem in_reads (os : Os) {H : Type} (enc : TypeId × Value → H) : ∃ places, DataW.whole enc Tryz.prog ((World.laidAll Tryz.prog os Rows.inlineDeepRow.laid).forCall (fun _ _ => 0) ⟨#[], #[.int .u8 0, .slice none 0 0], []⟩).memory Tryz.f7.params.toList Rows.inlineDeepSpec.vars false #[Value.int .u8 0, Value.slice none 0 0].toList 8 = some ([.lit (.int .u8 0), .nil], [], places) :=
 ⟨[], by kernel_rfl⟩
theorem inlineDeep_lifted (os : Os) (started : os.Started) (H : Type) (enc : TypeId × Value → H) (F : Stop.Interp) :
  ReturnsInHanded {} Tryz.checked os 7 .any ((OpenSpec.ofChange Rows.inlineDeepSpec).preRow enc Tryz.prog Tryz.f7 Rows.inlineDeepRow.domain false Rows.inlineDeepRow.laid) (((OpenSpec.ofChange Rows.inlineDeepSpec).at F).post enc Tryz.prog Tryz.f7 false true false false) := by
 obtain ⟨places, hx⟩ := in_reads os enc
 refine returnsInHanded_of_row (C := Tryz.checked) (s := OpenSpec.ofChange Rows.inlineDeepSpec) Tryz.own started (by kernel_rfl) Tryz.func7
  (witness_row_atRef (enc := enc) (C := Tryz.checked) false (World.laidAll Tryz.prog os Rows.inlineDeepRow.laid) #[.int .u8 0, .slice none 0 0] (World.laidAll_os _ _ _) (laid_vars os _) (laid_rest os _) (by kernel_rfl)
   (OpenSpec.preRow_of_cond 8 hx (by kernel_rfl) (fun k hk => by cases hk) (by kernel_rfl) (laid_met os _))) ?_
 intro W base args ds gs before hval0 hW _ hcond _ hL _ _
 have hval : ∀ (j : Nat) t v, Tryz.f7.params[j]? = some t → args[j]? = some v → Value.okWide Tryz.prog W .any base t v := hval0
 have hW' := hW
 obtain ⟨p, q, hA0, hV, rfl, hfz, hnd⟩ := hW'
 have hA : DataW.TrodAll enc Tryz.prog W 0 (fun _ => true) true Tryz.f7.params.toList args.toList ds p := hA0
 rw [Tryz.params7] at hA hval
 obtain ⟨v0, v1, d0, d1, p0, p1, rfl, rfl, rfl, h0, h1⟩ := trodAll_two hA
 obtain ⟨rfl, rfl⟩ := trodVars_none hV
 obtain ⟨x, rfl, rfl, rfl, hx8⟩ := open_int Tryz.underlying5 (hval 0 5 v0 rfl rfl) h0
 have hx0 : (0 : Int) ≤ x ∧ x ≤ 255 := by
  simp only [Lit.wf, Bool.and_eq_true, decide_eq_true_eq] at hx8
  exact hx8
 obtain ⟨k, rfl⟩ : ∃ k : Nat, x = ((k : Nat) : Int) := ⟨x.toNat, by omega⟩
 simp only [List.append_nil, List.nil_append] at hW
 have hlt : ∀ x ∈ p1, x.block < W.heap.size := fun x hx => by simpa using hW.lt x (by simpa using hx)
 obtain ⟨a1, len1, cap1, rfl⟩ := okWide_slice Tryz.underlying33 (hval 1 33 v1 rfl rfl)
 obtain ⟨n1, f1⟩ := h1
 obtain ⟨l, r1, w1', b1⟩ := Rd_byts n1 _ _ f1
 have hr : RepL (U0 W) W [.val (.int .u8 ((k : Nat) : Int)), .sl (l.map aByt)] [.int .u8 ((k : Nat) : Int), .slice a1 len1 cap1] := by
  simp only [RepL] at r1 ⊢
  obtain ⟨u3, u3', e3, r1, rfl⟩ := r1
  simp only [Value.cells, List.cons.injEq, and_true] at e3
  subst e3
  exact ⟨_, _, rfl, by simp only [Rep]; exact ⟨trivial, rfl⟩, _, _, rfl, r1, rfl⟩
 refine (law_calls (deep_to k (by omega) l) hr).mono fun e W' ⟨he, hb'⟩ => ?_
 subst he
 refine ⟨_, rfl, _, _, _, [], [] ++ p1, [], hW, ?_, ?_, rfl, hb'.frame _, fun h => by cases h⟩
 ·exact trodAll_mk1 (shut_bool Tryz.underlying4 true)
 ·exact trodAll_mk2 (shut_int Tryz.underlying5 hx8) (Below.trod Tryz.laidOut (by kernel_rfl) (of_decide_eq_true (by kernel_rfl)) ⟨n1, f1⟩ hb' (fun x hx => hlt x (by simp [hx])))
theorem inlineDeep_full : Rows.InlineDeepSaid :=
 OpenClaim.holds_of_cond 7 Tryz.f7 rfl rfl rfl rfl rfl rfl rfl ⟨rfl, rfl, rfl, rfl, rfl⟩ rfl rfl rfl rfl rfl (by kernel_rfl) Tryz.func7 idf_all
  (of_decide_eq_true (by kernel_rfl)) (by unfold Func.isWrapper; first | (rw [if_pos (by decide +kernel)]; kernel_rfl) | (rw [if_neg (by decide +kernel)]; exact ⟨rfl, rfl⟩))
  (fun os started H enc _ F => by rw [OpenClaim.pre_eq_preRow]; exact inlineDeep_lifted os started H enc F)
end Go.Proofs.YthbpjmogdonlkaaGreatDoor
