/- ParseMetas: for every input that is of bulk at most 1048576 the law returns true, and the argument reads afterwards as it read before. Conditions: that bound (the second form); the listed package-level variables hold what the program's text lays (tied by the card). -/
import Derived.Test.YthocambhbkjpcaaGreatDoorMnh
import Derived.Test.YthocambhbkjpcaaGreatDoorMni
import Derived.Test.YthocambhbkjpcaaGreatDoorMnk
import Derived.Test.YthocambhbkjpcaaGreatDoorCards
import Derived.Test.YthocambhbkjpcaaGreatDoorTie
import Derived.ProofKit
import Derived.JoinedCond
import Derived.WalkKit
import Derived.OpenShut
import Derived.SevenTiedAt
set_option linter.unusedSimpArgs false
set_option linter.unusedVariables false
namespace Go.Proofs.YthocambhbkjpcaaGreatDoor
open Go Go.Eng Go.ChangeShapes Go.WideShapes Go.ChangeAt Go.RowKit Go.ChangeMaps
theorem bulk1 {H : Type} {d0 : DataW H} (hk : Rows.uptoSmall H [d0] = true) : Rows.uptoBulk d0 ≤ 1048576 := by
  have h : Rows.uptoBulkAll [d0] ≤ 1048576 := of_decide_eq_true hk
  simp only [Rows.uptoBulkAll] at h; omega
theorem in_reads (os : Os) {H : Type} (enc : TypeId × Value → H) : ∃ places, DataW.whole enc Tryz.prog ((World.laidAll Tryz.prog os Rows.parseMetasUptoRow.laid).forCall (fun _ _ => 0) ⟨#[], #[.slice none 0 0], []⟩).memory Tryz.f3.params.toList Rows.parseMetasSpec.vars false #[Value.slice none 0 0].toList 8 = some ([.nil], [], places) :=
  ⟨[], by kernel_rfl⟩
set_option maxRecDepth 100000 in
theorem parseMetas_lifted (os : Os) (started : os.Started) (H : Type) (enc : TypeId × Value → H) (F : Stop.Interp) :
    ReturnsInHanded {} Tryz.checked os 3 .any ((Rows.OpenSpec.upto Rows.parseMetasSpec).preRow enc Tryz.prog Tryz.f3 Rows.parseMetasUptoRow.domain false Rows.parseMetasUptoRow.laid) (((Rows.OpenSpec.upto Rows.parseMetasSpec).at F).post enc Tryz.prog Tryz.f3 false true false false) := by
  obtain ⟨places, hx⟩ := in_reads os enc
  refine returnsInHanded_of_row (C := Tryz.checked) (s := Rows.OpenSpec.upto Rows.parseMetasSpec) Tryz.own started (by kernel_rfl) Tryz.func3
    (witness_row_atRef (enc := enc) (C := Tryz.checked) false (World.laidAll Tryz.prog os Rows.parseMetasUptoRow.laid) #[.slice none 0 0] (World.laidAll_os _ _ _) (laid_vars os _) (laid_rest os _) (by kernel_rfl)
      (OpenSpec.preRow_of_cond 8 hx (by kernel_rfl) (fun k hk => by cases hk; kernel_rfl) (by kernel_rfl) (laid_met os _))) ?_
  intro W base args ds gs before hval0 hW _ hcond _ hL _ _
  have hk : Rows.uptoSmall H (ds ++ gs) = true := hcond _ rfl
  have hval : ∀ (j : Nat) t v, Tryz.f3.params[j]? = some t → args[j]? = some v → Value.okWide Tryz.prog W .any base t v := hval0
  have hW' := hW
  obtain ⟨p, q, hA0, hV, rfl, hfz, hnd⟩ := hW'
  have hA : DataW.TrodAll enc Tryz.prog W 0 (fun _ => true) true Tryz.f3.params.toList args.toList ds p := hA0
  rw [Tryz.params3] at hA hval
  obtain ⟨v0, d0, rfl, rfl, h0⟩ := trodAll_one hA
  obtain ⟨rfl, rfl⟩ := trodVars_none hV
  simp only [List.append_nil] at hW hk
  have hlt : ∀ x ∈ p, x.block < W.heap.size := fun x hx => by simpa using hW.lt x hx
  obtain ⟨a1, len1, cap1, rfl⟩ := okWide_slice Tryz.underlying22 (hval 0 22 v0 rfl rfl)
  obtain ⟨n0, f0⟩ := h0
  obtain ⟨l, r0, w0, b0⟩ := Rd_strs n0 _ _ f0
  have hb := bulk1 hk
  simp only [] at w0
  have hr : RepL (U0 W) W [.sl (l.map strAV)] [.slice a1 len1 cap1] := by
    simp only [RepL] at r0 ⊢
    obtain ⟨u, u', e1, r1, rfl⟩ := r0
    simp only [Value.cells, List.cons.injEq, and_true] at e1
    subst e1
    exact ⟨_, _, rfl, r1, rfl⟩
  have hcall := pmtM_to l (by omega)
  rw [pmtM_true] at hcall
  refine (law_calls hcall hr).mono fun e W' ⟨he, hb'⟩ => ?_
  subst he
  refine ⟨_, rfl, _, _, _, [], p, [], hW, ?_, ?_, rfl, hb'.frame _, fun h => by cases h⟩
  · exact trodAll_mk1 (shut_bool Tryz.underlying4 true)
  · exact trodAll_mk1 (Below.trod Tryz.laidOut (by kernel_rfl) (of_decide_eq_true (by kernel_rfl)) ⟨n0, f0⟩ hb' (fun x hx => hlt x hx))
theorem parseMetas_upto : Rows.ParseMetasUptoSaid :=
  OpenClaim.holds_of_cond 3 Tryz.f3 rfl rfl rfl rfl rfl rfl rfl ⟨rfl, rfl, rfl, rfl, rfl⟩ rfl rfl rfl rfl rfl (by kernel_rfl) Tryz.func3 pmf_all
    (of_decide_eq_true (by kernel_rfl)) (by unfold Func.isWrapper; first | (rw [if_pos (by decide +kernel)]; kernel_rfl) | (rw [if_neg (by decide +kernel)]; exact ⟨rfl, rfl⟩))
    (fun os started H enc _ F => by rw [OpenClaim.pre_eq_preRow]; exact parseMetas_lifted os started H enc F)
theorem in_plain (f : FuncId) (fn : Func) (hf : Tryz.pinned.checked.prog.funcNamed "publisher/publisherlaw12.ParseMetas" = some f) (hfn : Tryz.pinned.checked.prog.funcs[f]? = some fn) :
    true = Tryz.pinned.checked.prog.looks [] ∧ ∀ (j : Nat) t, fn.params[j]? = some t → Tryz.pinned.checked.prog.wantsStandIn t = false := by
  obtain rfl : f = 3 := Option.some.inj ((show Tryz.prog.funcNamed "publisher/publisherlaw12.ParseMetas" = some 3 by kernel_rfl).symm.trans hf) |>.symm
  obtain rfl : fn = Tryz.f3 := (Option.some.inj (Tryz.func3.symm.trans hfn)).symm
  refine ⟨by kernel_rfl, fun j t ht => ?_⟩
  rw [Tryz.params3] at ht
  obtain rfl : t = 22 := by simpa using Array.mem_of_getElem? ht
  exact (show Tryz.prog.wantsStandIn 22 = false by kernel_rfl)
theorem parseMetas_card : Rows.ParseMetasUptoCardSaid :=
  Claim7.holds_tied_plain_at .later [] _ _ _ _ parseMetas_upto (fun _ h => by cases h) (by kernel_rfl) (fun _ h => by cases h) parseMetasUpto_row_tie rfl ⟨rfl, rfl⟩ (by kernel_rfl) rfl in_plain (by kernel_rfl)
#print axioms parseMetas_card
end Go.Proofs.YthocambhbkjpcaaGreatDoor
