/- Texts joined by a program (merge.py). -/
import Derived.Test.YtkgflongbanbgaaGreatDoorMvl
import Derived.Test.YtkgflongbanbgaaGreatDoorMvm
import Derived.Test.YtkgflongbanbgaaGreatDoorMvo
import Derived.Test.YtkgflongbanbgaaGreatDoorCards
import Derived.Test.YtkgflongbanbgaaGreatDoorTie
import Derived.ProofKit
import Derived.JoinedCond
import Derived.WalkKit
import Derived.OpenShut
import Derived.SevenTiedAt
import Derived.Carry
set_option linter.unusedSimpArgs false
set_option linter.unusedVariables false
set_option maxRecDepth 100000
set_option maxHeartbeats 4000000
namespace Go.Proofs.YtkgflongbanbgaaGreatDoor
open Go Go.Eng Go.ChangeShapes Go.WideShapes Go.ChangeAt Go.RowKit Go.ChangeMaps
theorem Rd_byt {H : Type} {enc : TypeId × Value → H} {P : Program} {w : World} {sp : Nat → Bool} {held : Bool} {t : TypeId} (ht : P.underlying t = some (.int .u8)) (n : Nat) : Rd enc P w sp held n t (fun b : UInt8 => [aByt b]) w1 := fun cs x h => by
 obtain ⟨m, rfl, rfl, hw⟩ := DataW.trod_int ht h
 have hb : (0 : Int) ≤ m ∧ m ≤ 255 := by
  simp only [Lit.wf, Bool.and_eq_true, decide_eq_true_eq] at hw
  exact hw
 have e : (((UInt8.ofNat m.toNat).toNat : Nat) : Int) = m := by
  rw [UInt8.toNat_ofNat']
  omega
 refine ⟨UInt8.ofNat m.toNat, ?_, by simp [w1, Rows.uptoBulk], by intro v hv; simp at hv; subst hv; rfl⟩
 simp only [RepL, aByt, Rep, e]
 exact ⟨_, _, rfl, ⟨rfl, rfl⟩, rfl⟩
theorem Rd_byts {H : Type} {enc : TypeId × Value → H} {w : World} {sp : Nat → Bool} {held : Bool} (n : Nat) : Rd enc Tryz.prog w sp held n 22 (fun l : List UInt8 => [.sl (l.map aByt)]) (wl w1) :=
 Rd_slice (t := 22) (e := 5) (sz := 1) (g := aByt) (wt := w1) Tryz.underlying22 (by kernel_rfl) (by decide) (One_val aByt (fun b => .int .u8 (b.toNat : Int)) (fun _ => rfl) (fun _ => rfl)) (fun q2 _ => Rd_byt Tryz.underlying5 q2)
theorem bulk4 {H : Type} {d0 d1 d2 d3 : DataW H} (hk : Rows.uptoSmall H [d0, d1, d2, d3] = true) : Rows.uptoBulk d0 + Rows.uptoBulk d3 ≤ 1048576 := by
 have h : Rows.uptoBulkAll [d0, d1, d2, d3] ≤ 1048576 := of_decide_eq_true hk
 simp only [Rows.uptoBulkAll] at h; omega
theorem in_reads (os : Os) {H : Type} (enc : TypeId × Value → H) : ∃ places, DataW.whole enc Tryz.prog ((World.laidAll Tryz.prog os Rows.macroVariableUptoRow.laid).forCall (fun _ _ => 0) ⟨#[], #[.slice none 0 0, .bool false, .bool false, .slice none 0 0], []⟩).memory Tryz.f3.params.toList Rows.macroVariableSpec.vars false #[Value.slice none 0 0, Value.bool false, Value.bool false, Value.slice none 0 0].toList 8 = some ([.nil, .lit (.bool false), .lit (.bool false), .nil], [], places) :=
 ⟨[], by kernel_rfl⟩
theorem macroVariable_lifted (os : Os) (started : os.Started) (H : Type) (enc : TypeId × Value → H) (F : Stop.Interp) :
  ReturnsInHanded {} Tryz.checked os 3 .any ((Rows.OpenSpec.upto Rows.macroVariableSpec).preRow enc Tryz.prog Tryz.f3 Rows.macroVariableUptoRow.domain false Rows.macroVariableUptoRow.laid) (((Rows.OpenSpec.upto Rows.macroVariableSpec).at F).post enc Tryz.prog Tryz.f3 false true false false) := by
 obtain ⟨places, hx⟩ := in_reads os enc
 refine returnsInHanded_of_row (C := Tryz.checked) (s := Rows.OpenSpec.upto Rows.macroVariableSpec) Tryz.own started (by kernel_rfl) Tryz.func3
  (witness_row_atRef (enc := enc) (C := Tryz.checked) false (World.laidAll Tryz.prog os Rows.macroVariableUptoRow.laid) #[.slice none 0 0, .bool false, .bool false, .slice none 0 0] (World.laidAll_os _ _ _) (laid_vars os _) (laid_rest os _) (by kernel_rfl)
   (OpenSpec.preRow_of_cond 8 hx (by kernel_rfl) (fun k hk => by cases hk; kernel_rfl) (by kernel_rfl) (laid_met os _))) ?_
 intro W base args ds gs before hval0 hW _ hcond _ hL _ _
 have hk : Rows.uptoSmall H (ds ++ gs) = true := hcond _ rfl
 have hval : ∀ (j : Nat) t v, Tryz.f3.params[j]? = some t → args[j]? = some v → Value.okWide Tryz.prog W .any base t v := hval0
 have hW' := hW
 obtain ⟨p, q, hA0, hV, rfl, hfz, hnd⟩ := hW'
 have hA : DataW.TrodAll enc Tryz.prog W 0 (fun _ => true) true Tryz.f3.params.toList args.toList ds p := hA0
 rw [Tryz.params3] at hA hval
 obtain ⟨v0, v1, v2, v3, d0, d1, d2, d3, p0, p1, p2, p3, rfl, rfl, rfl, h0, h1, h2, h3⟩ := trodAll_four hA
 obtain ⟨rfl, rfl⟩ := trodVars_none hV
 obtain ⟨x, rfl, rfl, rfl⟩ := open_bool Tryz.underlying4 (hval 1 4 v1 rfl rfl) h1
 obtain ⟨y, rfl, rfl, rfl⟩ := open_bool Tryz.underlying4 (hval 2 4 v2 rfl rfl) h2
 simp only [List.append_nil] at hW hk
 have hlt : ∀ x ∈ p0 ++ p3, x.block < W.heap.size := fun x hx => by simpa using hW.lt x (by simpa using hx)
 obtain ⟨a0, len0, cap0, rfl⟩ := okWide_slice Tryz.underlying22 (hval 0 22 v0 rfl rfl)
 obtain ⟨a3, len3, cap3, rfl⟩ := okWide_slice Tryz.underlying23 (hval 3 23 v3 rfl rfl)
 obtain ⟨n0, f0⟩ := h0
 obtain ⟨n3, f3⟩ := h3
 obtain ⟨l, r0, w0, b0⟩ := Rd_byts n0 _ _ f0
 obtain ⟨o, r3, w3, b3⟩ := Rd_prs n3 _ _ f3
 have hb := bulk4 hk
 simp only [] at w0 w3
 have hl := wl_len (w := w1) (fun x => Nat.le_refl 1) l
 have ho := wl_len (w := wPair) (fun x => by rw [wPair_eq]; omega) o
 have hr : RepL (U0 W) W [.sl (l.map aByt), vB x, vB y, .sl (o.map aPair)] [.slice a0 len0 cap0, .bool x, .bool y, .slice a3 len3 cap3] := by
  simp only [RepL] at r0 r3 ⊢
  obtain ⟨u, u', e1, r1, rfl⟩ := r0
  simp only [Value.cells, List.cons.injEq, and_true] at e1
  subst e1
  obtain ⟨u3, u3', e3, r3, rfl⟩ := r3
  simp only [Value.cells, List.cons.injEq, and_true] at e3
  subst e3
  exact ⟨_, _, rfl, r1, _, _, rfl, by simp only [Rep]; exact ⟨trivial, rfl⟩, _, _, rfl, by simp only [Rep]; exact ⟨trivial, rfl⟩, _, _, rfl, r3, rfl⟩
 have hcall := var_all l x y o (by omega) (by omega)
 refine (law_calls hcall hr).mono fun e W' ⟨he, hb'⟩ => ?_
 subst he
 refine ⟨_, rfl, _, _, _, [], p0 ++ p3, [], hW, ?_, ?_, rfl, hb'.frame _, fun h => by cases h⟩
 ·exact trodAll_mk1 (shut_bool Tryz.underlying4 true)
 ·exact trodAll_mk4 (Below.trod Tryz.laidOut (by kernel_rfl) (of_decide_eq_true (by kernel_rfl)) ⟨n0, f0⟩ hb' (fun x hx => hlt x (by simp [hx]))) (shut_bool Tryz.underlying4 x) (shut_bool Tryz.underlying4 y) (Below.trod Tryz.laidOut (by kernel_rfl) (of_decide_eq_true (by kernel_rfl)) ⟨n3, f3⟩ hb' (fun x hx => hlt x (by simp [hx])))
theorem macroVariable_upto : Rows.MacroVariableUptoSaid :=
 OpenClaim.holds_of_cond 3 Tryz.f3 rfl rfl rfl rfl rfl rfl rfl ⟨rfl, rfl, rfl, rfl, rfl⟩ rfl rfl rfl rfl rfl (by kernel_rfl) Tryz.func3 mvf_all
  (of_decide_eq_true (by kernel_rfl)) (by unfold Func.isWrapper; first | (rw [if_pos (by decide +kernel)]; kernel_rfl) | (rw [if_neg (by decide +kernel)]; exact ⟨rfl, rfl⟩))
  (fun os started H enc _ F => by rw [OpenClaim.pre_eq_preRow]; exact macroVariable_lifted os started H enc F)
end Go.Proofs.YtkgflongbanbgaaGreatDoor
