/- Texts joined by a program (merge.py). -/
import Derived.Test.YtbihjejjekeoiaaGreatDoorMsh
import Derived.Test.YtbihjejjekeoiaaGreatDoorMsi
import Derived.Test.YtbihjejjekeoiaaGreatDoorMsk
import Derived.Test.YtbihjejjekeoiaaGreatDoorCards
import Derived.Test.YtbihjejjekeoiaaGreatDoorTie
import Derived.ProofKit
import Derived.JoinedCond
import Derived.WalkKit
import Derived.OpenShut
import Derived.SevenTiedAt
set_option linter.unusedSimpArgs false
set_option linter.unusedVariables false
namespace Go.Proofs.YtbihjejjekeoiaaGreatDoor
open Go Go.Eng Go.ChangeShapes Go.WideShapes Go.ChangeAt Go.RowKit Go.ChangeMaps
theorem bulk2 {H : Type} {d0 d1 : DataW H} (hk : Rows.uptoSmall H [d0, d1] = true) : Rows.uptoBulk d0 + Rows.uptoBulk d1 ≤ 1048576 := by
  have h : Rows.uptoBulkAll [d0, d1] ≤ 1048576 := of_decide_eq_true hk
  simp only [Rows.uptoBulkAll] at h; omega
theorem is_reads (os : Os) {H : Type} (enc : TypeId × Value → H) : ∃ places, DataW.whole enc Tryz.prog ((World.laidAll Tryz.prog os Rows.includeShiftsUptoRow.laid).forCall (fun _ _ => 0) ⟨#[], #[.slice none 0 0, .int .i64 0], []⟩).memory Tryz.f3.params.toList Rows.includeShiftsSpec.vars false #[Value.slice none 0 0, Value.int .i64 0].toList 8 = some ([.nil, .lit (.int .i64 0)], [], places) :=
  ⟨[], by kernel_rfl⟩
set_option maxRecDepth 100000 in
theorem includeShifts_lifted (os : Os) (started : os.Started) (H : Type) (enc : TypeId × Value → H) (F : Stop.Interp) :
    ReturnsInHanded {} Tryz.checked os 3 .any ((Rows.OpenSpec.upto Rows.includeShiftsSpec).preRow enc Tryz.prog Tryz.f3 Rows.includeShiftsUptoRow.domain false Rows.includeShiftsUptoRow.laid) (((Rows.OpenSpec.upto Rows.includeShiftsSpec).at F).post enc Tryz.prog Tryz.f3 false true false false) := by
  obtain ⟨places, hx⟩ := is_reads os enc
  refine returnsInHanded_of_row (C := Tryz.checked) (s := Rows.OpenSpec.upto Rows.includeShiftsSpec) Tryz.own started (by kernel_rfl) Tryz.func3
    (witness_row_atRef (enc := enc) (C := Tryz.checked) false (World.laidAll Tryz.prog os Rows.includeShiftsUptoRow.laid) #[.slice none 0 0, .int .i64 0] (World.laidAll_os _ _ _) (laid_vars os _) (laid_rest os _) (by kernel_rfl)
      (OpenSpec.preRow_of_cond 8 hx (by kernel_rfl) (fun k hk => by cases hk; kernel_rfl) (by kernel_rfl) (laid_met os _))) ?_
  intro W base args ds gs before hval0 hW _ hcond _ hL _ _
  have hk : Rows.uptoSmall H (ds ++ gs) = true := hcond _ rfl
  have hval : ∀ (j : Nat) t v, Tryz.f3.params[j]? = some t → args[j]? = some v → Value.okWide Tryz.prog W .any base t v := hval0
  have hW' := hW
  obtain ⟨p, q, hA0, hV, rfl, hfz, hnd⟩ := hW'
  have hA : DataW.TrodAll enc Tryz.prog W 0 (fun _ => true) true Tryz.f3.params.toList args.toList ds p := hA0
  rw [Tryz.params3] at hA hval
  obtain ⟨v0, v1, d0, d1, p0, p1, rfl, rfl, rfl, h0, h1⟩ := trodAll_two hA
  obtain ⟨rfl, rfl⟩ := trodVars_none hV
  obtain ⟨k, rfl, rfl, rfl, wk⟩ := open_int Tryz.underlying3 (hval 1 3 v1 rfl rfl) h1
  simp only [List.append_nil] at hW hk
  have hlt : ∀ x ∈ p0, x.block < W.heap.size := fun x hx => by simpa using hW.lt x (by simp [hx])
  obtain ⟨a1, len1, cap1, rfl⟩ := okWide_slice Tryz.underlying22 (hval 0 22 v0 rfl rfl)
  obtain ⟨n0, f0⟩ := h0
  obtain ⟨l, r0, w0, b0⟩ := Rd_blks n0 _ _ f0
  have hb := bulk2 hk
  simp only [] at w0
  have hr : RepL (U0 W) W [.sl (l.map aBlock), vI k] [.slice a1 len1 cap1, .int .i64 k] := by
    simp only [RepL] at r0 ⊢
    obtain ⟨u, u', e1, r1, rfl⟩ := r0
    simp only [Value.cells, List.cons.injEq, and_true] at e1
    subst e1
    exact ⟨_, _, rfl, r1, _, _, rfl, by simp only [Rep]; exact ⟨trivial, rfl⟩, rfl⟩
  have hcall := ishM_to l k (by omega)
  rw [ishM_true] at hcall
  refine (law_calls hcall hr).mono fun e W' ⟨he, hb'⟩ => ?_
  subst he
  refine ⟨_, rfl, _, _, _, [], p0 ++ [], [], hW, ?_, ?_, rfl, hb'.frame _, fun h => by cases h⟩
  · exact trodAll_mk1 (shut_bool Tryz.underlying4 true)
  · exact trodAll_mk2 (Below.trod Tryz.laidOut (by kernel_rfl) (of_decide_eq_true (by kernel_rfl)) ⟨n0, f0⟩ hb' (fun x hx => hlt x hx)) (shut_int Tryz.underlying3 wk)
theorem includeShifts_upto : Rows.IncludeShiftsUptoSaid :=
  OpenClaim.holds_of_cond 3 Tryz.f3 rfl rfl rfl rfl rfl rfl rfl ⟨rfl, rfl, rfl, rfl, rfl⟩ rfl rfl rfl rfl rfl (by kernel_rfl) Tryz.func3 isf_all
    (of_decide_eq_true (by kernel_rfl)) (by unfold Func.isWrapper; first | (rw [if_pos (by decide +kernel)]; kernel_rfl) | (rw [if_neg (by decide +kernel)]; exact ⟨rfl, rfl⟩))
    (fun os started H enc _ F => by rw [OpenClaim.pre_eq_preRow]; exact includeShifts_lifted os started H enc F)
theorem is_plain (f : FuncId) (fn : Func) (hf : Tryz.pinned.checked.prog.funcNamed "publisher/publisherlaw19.IncludeShifts" = some f) (hfn : Tryz.pinned.checked.prog.funcs[f]? = some fn) :
    true = Tryz.pinned.checked.prog.looks [] ∧ ∀ (j : Nat) t, fn.params[j]? = some t → Tryz.pinned.checked.prog.wantsStandIn t = false := by
  obtain rfl : f = 3 := Option.some.inj ((show Tryz.prog.funcNamed "publisher/publisherlaw19.IncludeShifts" = some 3 by kernel_rfl).symm.trans hf) |>.symm
  obtain rfl : fn = Tryz.f3 := (Option.some.inj (Tryz.func3.symm.trans hfn)).symm
  refine ⟨by kernel_rfl, fun j t ht => ?_⟩
  rw [Tryz.params3] at ht
  have hm : t ∈ [22, 3] := by simpa using Array.mem_of_getElem? ht
  have hall : ([22, 3].all fun u => !Tryz.prog.wantsStandIn u) = true := by kernel_rfl
  exact (show Tryz.prog.wantsStandIn t = false by simpa using List.all_eq_true.1 hall t hm)
theorem includeShifts_card : Rows.IncludeShiftsUptoCardSaid :=
  Claim7.holds_tied_plain_at .later [] _ _ _ _ includeShifts_upto (fun _ h => by cases h) (by kernel_rfl) (fun _ h => by cases h) includeShiftsUpto_row_tie rfl ⟨rfl, rfl⟩ (by kernel_rfl) rfl is_plain (by kernel_rfl)
#print axioms includeShifts_card
end Go.Proofs.YtbihjejjekeoiaaGreatDoor
