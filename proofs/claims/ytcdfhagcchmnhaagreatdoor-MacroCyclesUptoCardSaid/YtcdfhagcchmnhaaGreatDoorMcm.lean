/- Texts joined by a program (merge.py). -/
import Derived.Test.YtcdfhagcchmnhaaGreatDoorMci
import Derived.Test.YtcdfhagcchmnhaaGreatDoorMcj
import Derived.Test.YtcdfhagcchmnhaaGreatDoorMcl
import Derived.Test.YtcdfhagcchmnhaaGreatDoorCards
import Derived.Test.YtcdfhagcchmnhaaGreatDoorTie
import Derived.ProofKit
import Derived.JoinedCond
import Derived.WalkKit
import Derived.OpenShut
import Derived.SevenTiedAt
set_option linter.unusedSimpArgs false
set_option linter.unusedVariables false
namespace Go.Proofs.YtcdfhagcchmnhaaGreatDoor
open Go Go.Eng Go.ChangeShapes Go.WideShapes Go.ChangeAt Go.RowKit Go.ChangeMaps
theorem Rd_byt {H : Type} {enc : TypeId × Value → H} {P : Program} {w : World} {sp : Nat → Bool} {held : Bool} {t : TypeId} (ht : P.underlying t = some (.int .u8)) (n : Nat) : Rd enc P w sp held n t (fun b : UInt8 => [aByt b]) w1 := fun cs x h => by
  obtain ⟨m, rfl, rfl, hw⟩ := DataW.trod_int ht h
  have hb : (0 : Int) ≤ m ∧ m ≤ 255 := by
    simp only [Lit.wf, Bool.and_eq_true, decide_eq_true_eq] at hw
    exact hw
  have e : (((UInt8.ofNat m.toNat).toNat : Nat) : Int) = m := by
    rw [UInt8.toNat_ofNat']
    omega
  refine ⟨UInt8.ofNat m.toNat, ?_, by simp [w1, Rows.uptoBulk], by intro v hv; simp at hv; subst hv; rfl⟩
  simp only [RepL, aByt, Rep, e]
  exact ⟨_, _, rfl, ⟨rfl, rfl⟩, rfl⟩
theorem One_sl {α : Type} (h : α → List AV) : One 1 (fun a => [AV.sl (h a)]) (fun a => AV.sl (h a)) := fun U w a us hr _ h1 => by
  simp only [RepL] at hr
  obtain ⟨u, us', rfl, h2, rfl⟩ := hr
  refine ⟨u, h2, ?_⟩
  simp only [Rep] at h2
  obtain ⟨ad, cap, es, sz, rfl, _⟩ := h2
  rfl
section
variable {H : Type} {enc : TypeId × Value → H} {P : Program} {w : World} {sp : Nat → Bool} {held : Bool}
theorem Rd_slice1 {t e : TypeId} {n sz : Nat} {α : Type} {f : α → List AV} {g : α → AV} {wt : α → Nat} (ht : P.underlying t = some (.slice e)) (hc : P.cellsOf e = sz) (hz : 0 < sz) (hO : One sz f g) (hR : ∀ m, n = m + 1 → Rd enc P w sp held m e f wt) :
    Rd enc P w sp held n t (fun l : List α => [.sl (l.map g)]) (fun l => wl wt l + 1) := fun cs x h => by
  rcases DataW.trod_slice ht h with ⟨rfl, rfl⟩ | ⟨a, len, cap, elems, rest, m, rfl, rfl, rfl, hb, hl, hm, hlen, hel, _, _⟩
  · exact ⟨[], by simp only [List.map_nil, RepL]; exact ⟨_, _, rfl, Rep_nil _ _, rfl⟩, by simp [wl, Rows.uptoBulk], by intro v hv; simp at hv; subst hv; rfl⟩
  · obtain ⟨l, es, k1, k2, k3, k4, k5⟩ := slice_go hc (hR m rfl) hO a elems 0 (fun i hi => by rw [Nat.zero_add]; have := hel i (by omega); rw [hc] at this; exact this)
    refine ⟨l, ?_, by simp only [Rows.uptoBulk]; omega, by intro v hv; simp at hv; subst hv; rfl⟩
    simp only [RepL]
    refine ⟨_, _, rfl, ?_, rfl⟩
    simp only [Rep]
    have hll : (l.map g).length = len := by simp; omega
    have hes : es.length = len := by have := k1.length; omega
    have hfirst : vcells es ≠ [] → a.spot = none := by
      intro hne
      obtain ⟨v, r, hv⟩ := List.exists_cons_of_ne_nil hne
      have := (k5 0 v (by rw [hv]; rfl)).1
      simp only [Nat.zero_mul, Nat.zero_add, Addr.add, if_true, World.cell?] at this
      split at this
      · cases hs : a.spot with
        | none => rfl
        | some s => rw [hs] at this; simp at this
      · simp at this
    refine ⟨some a, cap, es, sz, by rw [hll], k1, k3, by simp, by rw [hll]; exact hl, ?_, ?_⟩
    · rintro hne ad ⟨⟩
      have hsz : sz ≠ 0 := by omega
      refine hfirst (fun q => ?_)
      have hz := vcells_length es k3
      rw [q] at hz
      simp only [List.length_nil] at hz
      have : es.length = 0 := by
        rcases Nat.mul_eq_zero.1 hz.symm with h | h
        · exact h
        · exact absurd h hsz
      apply hne
      have : l.length = 0 := by omega
      simp [List.eq_nil_of_length_eq_zero this]
    · by_cases hne : vcells es = []
      · exact .inl hne
      · right
        have hs := hfirst hne
        obtain ⟨b, off, s⟩ := a
        simp only at hs; subst hs
        refine ⟨b, off, rfl, ?_, fun j v hj => ?_⟩
        · have hlen : 0 < (vcells es).length := List.length_pos_iff.2 hne
          have hv := List.getElem?_eq_getElem (l := vcells es) (i := (vcells es).length - 1) (by omega)
          have := (k5 _ _ hv).1
          rw [Nat.zero_mul, Nat.zero_add, addr_add] at this
          have := cell_U0 this
          omega
        · have := k5 j v hj
          rw [Nat.zero_mul, Nat.zero_add, addr_add] at this
          exact this
end
def wRow (r : List UInt8) : Nat := wl w1 r + 1
theorem Rd_rows {H : Type} {enc : TypeId × Value → H} {w : World} {sp : Nat → Bool} {held : Bool} (n : Nat) : Rd enc Tryz.prog w sp held n 36 (fun l : List (List UInt8) => [.sl (l.map aRowB)]) (fun l => wl wRow l + 1) :=
  Rd_slice1 (t := 36) (e := 39) (sz := 1) (g := aRowB) (wt := wRow) Tryz.underlying36 (by kernel_rfl) (by decide) (One_sl _) (fun q _ => Rd_slice1 (t := 39) (e := 5) (sz := 1) (g := aByt) (wt := w1) Tryz.underlying39 (by kernel_rfl) (by decide) (One_val aByt (fun b => .int .u8 (b.toNat : Int)) (fun _ => rfl) (fun _ => rfl)) (fun q2 _ => Rd_byt Tryz.underlying5 q2))
theorem w1_len {α : Type} (l : List α) : wl w1 l = l.length := by
  induction l with
  | nil => rfl
  | cons x l ih => simp [wl, w1, ih]; omega
theorem bulkC {H : Type} {d0 : DataW H} (hk : Rows.uptoSmall H [d0] = true) : Rows.uptoBulk d0 ≤ 1048576 := by
  have h : Rows.uptoBulkAll [d0] ≤ 1048576 := of_decide_eq_true hk
  simp only [Rows.uptoBulkAll] at h; omega
theorem in_reads2 (os : Os) {H : Type} (enc : TypeId × Value → H) : ∃ places, DataW.whole enc Tryz.prog ((World.laidAll Tryz.prog os Rows.macroCyclesUptoRow.laid).forCall (fun _ _ => 0) ⟨#[], #[.slice none 0 0], []⟩).memory Tryz.f4.params.toList Rows.macroCyclesSpec.vars false #[Value.slice none 0 0].toList 8 = some ([.nil], [], places) :=
  ⟨[], by kernel_rfl⟩
set_option maxRecDepth 100000 in
theorem macroCycles_lifted (os : Os) (started : os.Started) (H : Type) (enc : TypeId × Value → H) (F : Stop.Interp) :
    ReturnsInHanded {} Tryz.checked os 4 .any ((Rows.OpenSpec.upto Rows.macroCyclesSpec).preRow enc Tryz.prog Tryz.f4 Rows.macroCyclesUptoRow.domain false Rows.macroCyclesUptoRow.laid) (((Rows.OpenSpec.upto Rows.macroCyclesSpec).at F).post enc Tryz.prog Tryz.f4 false true false false) := by
  obtain ⟨places, hx⟩ := in_reads2 os enc
  refine returnsInHanded_of_row (C := Tryz.checked) (s := Rows.OpenSpec.upto Rows.macroCyclesSpec) Tryz.own2 started (by kernel_rfl) Tryz.func4
    (witness_row_atRef (enc := enc) (C := Tryz.checked) false (World.laidAll Tryz.prog os Rows.macroCyclesUptoRow.laid) #[.slice none 0 0] (World.laidAll_os _ _ _) (laidC_vars os _) (laidC_rest os _) (by kernel_rfl)
      (OpenSpec.preRow_of_cond 8 hx (by kernel_rfl) (fun k hk => by cases hk; kernel_rfl) (by kernel_rfl) (laidC_met os _))) ?_
  intro W base args ds gs before hval0 hW _ hcond _ hL _ _
  have hk : Rows.uptoSmall H (ds ++ gs) = true := hcond _ rfl
  have hval : ∀ (j : Nat) t v, Tryz.f4.params[j]? = some t → args[j]? = some v → Value.okWide Tryz.prog W .any base t v := hval0
  have hW' := hW
  obtain ⟨p, q, hA0, hV, rfl, hfz, hnd⟩ := hW'
  have hA : DataW.TrodAll enc Tryz.prog W 0 (fun _ => true) true Tryz.f4.params.toList args.toList ds p := hA0
  rw [Tryz.params4] at hA hval
  obtain ⟨v0, d0, rfl, rfl, h0⟩ := trodAll_one hA
  obtain ⟨rfl, rfl⟩ := trodVars_none hV
  simp only [List.append_nil] at hW hk
  have hlt : ∀ x ∈ p, x.block < W.heap.size := fun x hx => by simpa using hW.lt x hx
  obtain ⟨a1, len1, cap1, rfl⟩ := okWide_slice Tryz.underlying36 (hval 0 36 v0 rfl rfl)
  obtain ⟨n0, f0⟩ := h0
  obtain ⟨d, r0, w0, b0⟩ := Rd_rows n0 _ _ f0
  have hb := bulkC hk
  simp only [] at w0
  have hdl : d.length ≤ wl wRow d := wl_len (fun r => by unfold wRow; omega) d
  have hcall := cyc_all d (by omega) (fun r hr => by
    have h1 : wRow r ≤ wl wRow d := wl_mem hr
    have h2 : wl w1 r = r.length := w1_len r
    have h3 : wl w1 r + 1 ≤ wl wRow d := h1
    omega)
  refine (law_calls hcall r0).mono fun e W' ⟨he, hb'⟩ => ?_
  subst he
  refine ⟨_, rfl, _, _, _, [], p, [], hW, ?_, ?_, rfl, hb'.frame _, fun h => by cases h⟩
  · exact trodAll_mk1 (shut_bool Tryz.underlying4 true)
  · exact trodAll_mk1 (Below.trod Tryz.laidOut2 (by kernel_rfl) (of_decide_eq_true (by kernel_rfl)) ⟨n0, f0⟩ hb' (fun x hx => hlt x hx))
theorem macroCycles_upto : Rows.MacroCyclesUptoSaid :=
  OpenClaim.holds_of_cond 4 Tryz.f4 rfl rfl rfl rfl rfl rfl rfl ⟨rfl, rfl, rfl, rfl, rfl⟩ rfl rfl rfl rfl rfl (by kernel_rfl) Tryz.func4 mcf_all
    (of_decide_eq_true (by kernel_rfl)) (by unfold Func.isWrapper; first | (rw [if_pos (by decide +kernel)]; kernel_rfl) | (rw [if_neg (by decide +kernel)]; exact ⟨rfl, rfl⟩))
    (fun os started H enc _ F => by rw [OpenClaim.pre_eq_preRow]; exact macroCycles_lifted os started H enc F)
end Go.Proofs.YtcdfhagcchmnhaaGreatDoor
