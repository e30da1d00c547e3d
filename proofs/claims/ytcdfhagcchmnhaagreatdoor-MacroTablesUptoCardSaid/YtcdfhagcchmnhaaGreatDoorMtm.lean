/- Texts joined by a program (merge.py). -/
import Derived.Test.YtcdfhagcchmnhaaGreatDoorMti
import Derived.Test.YtcdfhagcchmnhaaGreatDoorMtj
import Derived.Test.YtcdfhagcchmnhaaGreatDoorMtl
import Derived.Test.YtcdfhagcchmnhaaGreatDoorCards
import Derived.Test.YtcdfhagcchmnhaaGreatDoorTie
import Derived.ProofKit
import Derived.JoinedCond
import Derived.WalkKit
import Derived.OpenShut
import Derived.SevenTiedAt
set_option linter.unusedSimpArgs false
set_option linter.unusedVariables false
namespace Go.Proofs.YtcdfhagcchmnhaaGreatDoor
open Go Go.Eng Go.ChangeShapes Go.WideShapes Go.ChangeAt Go.RowKit Go.ChangeMaps
theorem bulk1 {H : Type} {d0 : DataW H} (hk : Rows.uptoSmall H [d0] = true) : Rows.uptoBulk d0 ≤ 1048576 := by
  have h : Rows.uptoBulkAll [d0] ≤ 1048576 := of_decide_eq_true hk
  simp only [Rows.uptoBulkAll] at h; omega
theorem in_reads (os : Os) {H : Type} (enc : TypeId × Value → H) : ∃ places, DataW.whole enc Tryz.prog ((World.laidAll Tryz.prog os Rows.macroTablesUptoRow.laid).forCall (fun _ _ => 0) ⟨#[], #[.agg #[.slice none 0 0, .slice none 0 0]], []⟩).memory Tryz.f3.params.toList Rows.macroTablesSpec.vars false #[Value.agg #[.slice none 0 0, .slice none 0 0]].toList 8 = some ([.agg [.nil, .nil]], [], places) :=
  ⟨[], by kernel_rfl⟩
set_option maxRecDepth 100000 in
theorem macroTables_lifted (os : Os) (started : os.Started) (H : Type) (enc : TypeId × Value → H) (F : Stop.Interp) :
    ReturnsInHanded {} Tryz.checked os 3 .any ((Rows.OpenSpec.upto Rows.macroTablesSpec).preRow enc Tryz.prog Tryz.f3 Rows.macroTablesUptoRow.domain false Rows.macroTablesUptoRow.laid) (((Rows.OpenSpec.upto Rows.macroTablesSpec).at F).post enc Tryz.prog Tryz.f3 false true false false) := by
  obtain ⟨places, hx⟩ := in_reads os enc
  refine returnsInHanded_of_row (C := Tryz.checked) (s := Rows.OpenSpec.upto Rows.macroTablesSpec) Tryz.own started (by kernel_rfl) Tryz.func3
    (witness_row_atRef (enc := enc) (C := Tryz.checked) false (World.laidAll Tryz.prog os Rows.macroTablesUptoRow.laid) #[.agg #[.slice none 0 0, .slice none 0 0]] (World.laidAll_os _ _ _) (laid_vars os _) (laid_rest os _) (by kernel_rfl)
      (OpenSpec.preRow_of_cond 8 hx (by kernel_rfl) (fun k hk => by cases hk; kernel_rfl) (by kernel_rfl) (laid_met os _))) ?_
  intro W base args ds gs before hval0 hW _ hcond _ hL _ _
  have hk : Rows.uptoSmall H (ds ++ gs) = true := hcond _ rfl
  have hval : ∀ (j : Nat) t v, Tryz.f3.params[j]? = some t → args[j]? = some v → Value.okWide Tryz.prog W .any base t v := hval0
  have hW' := hW
  obtain ⟨p, q, hA0, hV, rfl, hfz, hnd⟩ := hW'
  have hA : DataW.TrodAll enc Tryz.prog W 0 (fun _ => true) true Tryz.f3.params.toList args.toList ds p := hA0
  rw [Tryz.params3] at hA hval
  obtain ⟨v0, d0, rfl, rfl, h0⟩ := trodAll_one hA
  obtain ⟨rfl, rfl⟩ := trodVars_none hV
  simp only [List.append_nil] at hW hk
  have hlt : ∀ x ∈ p, x.block < W.heap.size := fun x hx => by simpa using hW.lt x hx
  obtain ⟨c0, rfl, hc0⟩ := okWide_struct Tryz.underlying25 (hval 0 25 v0 rfl rfl)
  obtain ⟨n0, f0⟩ := h0
  obtain ⟨d, r0, w0, b0⟩ := Rd_aDoc n0 _ _ f0
  have hb := bulk1 hk
  simp only [] at w0
  have hr : RepL (U0 W) W [cDoc d] [.agg c0] := by
    simp only [RepL]
    exact ⟨_, _, rfl, by simp only [cDoc, Rep]; exact ⟨c0, rfl, r0, b0⟩, rfl⟩
  have hcall := mtbM_to d (by omega)
  rw [mtbM_true] at hcall
  refine (law_calls hcall hr).mono fun e W' ⟨he, hb'⟩ => ?_
  subst he
  refine ⟨_, rfl, _, _, _, [], p, [], hW, ?_, ?_, rfl, hb'.frame _, fun h => by cases h⟩
  · exact trodAll_mk1 (shut_bool Tryz.underlying4 true)
  · exact trodAll_mk1 (Below.trod Tryz.laidOut (by kernel_rfl) (of_decide_eq_true (by kernel_rfl)) ⟨n0, f0⟩ hb' (fun x hx => hlt x hx))
theorem macroTables_upto : Rows.MacroTablesUptoSaid :=
  OpenClaim.holds_of_cond 3 Tryz.f3 rfl rfl rfl rfl rfl rfl rfl ⟨rfl, rfl, rfl, rfl, rfl⟩ rfl rfl rfl rfl rfl (by kernel_rfl) Tryz.func3 mtf_all
    (of_decide_eq_true (by kernel_rfl)) (by unfold Func.isWrapper; first | (rw [if_pos (by decide +kernel)]; kernel_rfl) | (rw [if_neg (by decide +kernel)]; exact ⟨rfl, rfl⟩))
    (fun os started H enc _ F => by rw [OpenClaim.pre_eq_preRow]; exact macroTables_lifted os started H enc F)
end Go.Proofs.YtcdfhagcchmnhaaGreatDoor
