/- From a contract of the engine to what a row asks. -/
import Derived.Test.YtdaglbjgdakmcaaEngR
import Derived.Test.YtdaglbjgdakmcaaPlain
import Derived.ProofKit
import Derived.SliceStrings
set_option linter.unusedSimpArgs false
set_option linter.unusedVariables false
namespace Go.Eng
open Go.ChangeShapes Go.WideShapes Go.ChangeAt Go.RowKit

/-- All that lies in memory stays. -/
def U0 (w : World) (b : Nat) : Nat := match w.heap[b]? with
  | some (.cells arr _ _) => arr.size
  | _ => 0

theorem wf0 (w : World) : Wf ⟨U0 w, fun _ => none, fun _ => 0⟩ w :=
  ⟨fun κ κ' b h => by simp at h, fun κ b h => by simp at h, fun b hb => by simp only [U0]; rw [Array.getElem?_eq_none hb]⟩

theorem law_calls {P : Program} {f : FuncId} {xs : List AV} (h : CallTo P f (xs.map .av) [] [] (jB true) [] []) {W : World} {vs : List Value} (hr : RepL (U0 W) W xs vs) :
    Calls P f vs.toArray W (fun e W' => e = .returned (.bool true) ∧ Below W.heap.size W W') := by
  refine (h.2 ⟨U0 W, fun _ => none, fun _ => 0⟩ W vs (wf0 W) (RepSs_av hr) (by simp) (by simp)).mono ?_
  rintro e w' ⟨v, G', rfl, s1, _, s3, _⟩
  simp only [jB, RepS, Rep] at s3
  rw [s3.1]
  exact ⟨rfl, s1.os, s1.tape, s1.output, s1.size, fun k hk => (s1.stay k hk (by simp)).1⟩

theorem cell_U0 {w : World} {b o : Nat} {v : Value} (h : w.cell? ⟨b, o, none⟩ = some v) : o < U0 w b := by
  unfold U0
  simp only [World.cell?] at h
  split at h
  · rename_i arr e fz hb
    rw [hb]
    simp only [Option.isSome_none, Bool.false_eq_true, if_false] at h
    rcases Nat.lt_or_ge o arr.size with h1 | h1
    · exact h1
    · simp [Array.getElem?_eq_none h1] at h
  · simp at h

theorem RepL_strs {U : Nat → Nat} {w : World} : ∀ l : List ByteArray, RepL U w (l.map strAV) (l.map Value.string)
  | [] => by simp [RepL]
  | s :: l => by
    simp only [List.map_cons, RepL]
    exact ⟨_, _, rfl, by simp only [strAV, Rep]; exact ⟨trivial, rfl⟩, RepL_strs l⟩

/-- A slice of strings that came in. -/
theorem rep_strs {H : Type} {enc : TypeId × Value → H} {P : Program} {W : World} {base : Nat} {r : Reach} {b0 : Nat} {spare : Nat → Bool} {held : Bool} {t e : TypeId} {v : Value} {d : DataW H} {ps : List MemPlace} (ht : P.underlying t = some (.slice e)) (he : P.underlying e = some .string) (hc : P.cellsOf e = 1)
    (hval : Value.okWide P W r b0 t v) (hd : DataW.Trod enc P W base spare held t v d ps) : ∃ fl : List ByteArray, Rep (U0 W) W (.sl (fl.map strAV)) v ∧ fl.length ≤ maxLen := by
  obtain ⟨a0, len, cap, rfl⟩ := okWide_slice ht hval
  obtain ⟨fuel, hf⟩ := hd
  rcases open_strings ht he hc hf with ⟨hcs, _⟩ | ⟨a, len', cap', ss, hcs, _, hl, hm, hz, _, hcell, _⟩
  · simp [Value.cells] at hcs
    obtain ⟨rfl, rfl, rfl⟩ := hcs
    exact ⟨[], Rep_nil _ _, by simp⟩
  · simp [Value.cells] at hcs
    obtain ⟨rfl, rfl, rfl⟩ := hcs
    have hsp : a.spot = none := by
      simp only [Value.okWide, ht, Cell.okWide, Cell.ok, World.has] at hval
      exact hval.2.2.2.1
    obtain ⟨b, off, spot⟩ := a
    simp only at hsp; subst hsp
    have hlen : len ≤ ss.length := by rw [hz]; split <;> omega
    have hll : (ss.take len).length = len := by simp; omega
    refine ⟨ss.take len, ?_, by rw [hll]; omega⟩
    simp only [Rep]
    have hvc : vcells ((ss.take len).map Value.string) = (ss.take len).map Value.string := vcells_one _ (fun v hv => by simp only [List.mem_map] at hv; obtain ⟨s, _, rfl⟩ := hv; rfl)
    refine ⟨some ⟨b, off, none⟩, cap, (ss.take len).map Value.string, 1, by rw [List.length_map, hll], RepL_strs _, fun v hv => by simp only [List.mem_map] at hv; obtain ⟨s, _, rfl⟩ := hv; rfl, by simp, by rw [List.length_map, hll]; exact hl, by simp, ?_⟩
    rw [hvc]
    have hc2 : ∀ j s, (ss.take len)[j]? = some s → W.cell? ⟨b, off + j, none⟩ = some (.string s) := by
      intro j s hj
      rw [List.getElem?_take] at hj
      split at hj
      · rename_i hjl
        have := hcell j (by omega)
        rw [addr_add] at this
        rw [this]
        simp [List.getD_eq_getElem?_getD, hj]
      · simp at hj
    by_cases h0 : len = 0
    · left; subst h0; simp
    · right
      refine ⟨b, off, rfl, ?_, fun j x hx => ?_⟩
      · rw [List.length_map, hll]
        have h1 := cell_U0 (hc2 (len - 1) ((ss.take len)[len - 1]'(by omega)) (List.getElem?_eq_getElem (by omega)))
        omega
      · simp only [List.getElem?_map, Option.map_eq_some_iff] at hx
        obtain ⟨s, hs, rfl⟩ := hx
        exact ⟨hc2 j s hs, rfl⟩

theorem rep_str {U : Nat → Nat} {w : World} (s : ByteArray) : Rep U w (.val (.string s)) (.string s) := by simp only [Rep]; exact ⟨trivial, rfl⟩

end Go.Eng
