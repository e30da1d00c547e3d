/- strings.Builder: copyCheck, String. -/
import Derived.Test.YtdaglbjgdakmcaaTy
import Derived.Test.YtdaglbjgdakmcaaEngR
import Derived.Lib.Builder
import Derived.Lib.UnsafeStr
import Derived.Lib.AppendStr
import Derived.WalkKit
import Derived.Laws.Externs
import Derived.RegionTactic
import Derived.KernelRfl
set_option linter.unusedSimpArgs false
set_option linter.unusedVariables false
namespace Go.Proofs.Ytdaglbjgdakmcaa
open Go Go.Eng Go.RowKit

theorem bsize : (Try.prog.info? 53).map (·.size) = some 2 := by kernel_rfl
theorem blies : liesAt Try.prog Try.prog.depth 53 (2 / Try.prog.cellsOf 53) 0 53 1 = true := by kernel_rfl
theorem bcells : Try.prog.cellsOf 5 = 1 := by kernel_rfl

set_option maxHeartbeats 1000000 in
set_option maxRecDepth 100000 in
theorem copyCheck_used (b : Nat) (w : World) (h0 : w.cell? ⟨b, 0, none⟩ = some (.pointer (some ⟨b, 0, none⟩))) :
    Calls Try.prog 43 #[.pointer (some ⟨b, 0, none⟩)] w fun e w' => e = .returned (.tuple #[]) ∧ w' = w := by
  obtain ⟨j, hj, _⟩ := Option.map_eq_some_iff.1 bsize
  go_enter Try.func43, Try.ntmps43
  go_wp2
  rw [Lib.run_neq_ptr_same w _ Try.underlying50 hj]
  go_wp2
  go_end0
  exact ⟨rfl, rfl⟩

set_option maxHeartbeats 1000000 in
set_option maxRecDepth 100000 in
theorem copyCheck_fresh (b : Nat) (w : World) (h0 : w.cell? ⟨b, 0, none⟩ = some (.pointer none)) (hsh : w.shape? b = some (53, 2)) (hfz : w.frozen? ⟨b, 0, none⟩ = false) :
    Calls Try.prog 43 #[.pointer (some ⟨b, 0, none⟩)] w fun e w' => e = .returned (.tuple #[]) ∧ w' = w.setCell ⟨b, 0, none⟩ (.pointer (some ⟨b, 0, none⟩)) := by
  obtain ⟨j, hj, hjs⟩ := Option.map_eq_some_iff.1 bsize
  go_enter Try.func43, Try.ntmps43
  go_wp2
  rw [Lib.run_to_unsafe w ⟨b, 0, none⟩ Try.underlying50 Try.underlying75 hj (by rw [hjs]; decide) hsh (Nat.zero_lt_succ 1)]
  simp only [Result.andThen]
  rw [Oper.upon_value]
  go_wp2
  rw [run_callFunc_extern Try.func48 (by kernel_rfl) (by kernel_rfl) (by kernel_rfl) (e := Extern.AbiNoEscape.same) (by kernel_rfl)]
  rw [Lib.run_noEscape]
  simp only [Result.andThen]
  rw [Oper.upon_value]
  go_wp2
  rw [Lib.run_from_unsafe w ⟨b, 0, none⟩ Try.underlying75 Try.underlying50 hj hsh blies]
  simp only [Result.andThen]
  rw [Oper.upon_value]
  go_wp2
  go_end0
  exact ⟨rfl, rfl⟩

set_option maxHeartbeats 1000000 in
set_option maxRecDepth 100000 in
theorem String_calls (b g n cap : Nat) (p : Value) (cur : Array Value) (l : List UInt8) (w : World) (h0 : l ≠ []) (hn : n = l.length) (hcap : l.length ≤ cap) (hcs : l.length ≤ cur.size) (h63 : l.length ≤ 9223372036854775807)
    (hbk : w.heap[b]? = some (.cells #[p, .slice (some ⟨g, 0, none⟩) n cap] 53 (0, 0))) (hg : w.heap[g]? = some (.cells cur 5 (0, 0))) (hcell : ∀ j x, l[j]? = some x → w.cell? ⟨g, j, none⟩ = some (.int .u8 x.toNat)) :
    Calls Try.prog 27 #[.pointer (some ⟨b, 0, none⟩)] w fun e w' => e = .returned (.string ⟨l.toArray⟩) ∧ w'.heap = (w.freeze ⟨g, 0, none⟩ l.length).heap ∧ w'.os = w.os ∧ w'.tape = w.tape ∧ w'.output = w.output := by
  subst hn
  have hl0 : l.length ≠ 0 := by simpa using h0
  have c1 : w.drew.cell? ⟨b, 1, none⟩ = some (.slice (some ⟨g, 0, none⟩) l.length cap) := by
    have : w.drew.heap[b]? = some (.cells #[p, .slice (some ⟨g, 0, none⟩) l.length cap] 53 (0, 0)) := hbk
    rw [Lib.cell_of_heap this]; rfl
  have hSD : (Builtin.unsafeSliceData_ #[51] 68 #[.slice (some ⟨g, 0, none⟩) l.length cap]).run Try.prog w.drew = .ok (.pointer (some ⟨g, 0, none⟩)) w.drew :=
    Lib.run_unsafeSliceData_row _ _ _ _ _ _ (by omega)
  have hUS : (Builtin.unsafeString_ #[68, 3] 9 #[.pointer (some ⟨g, 0, none⟩), .int .i64 l.length]).run Try.prog w.drew = .ok (.string ⟨l.toArray⟩) (w.drew.freeze ⟨g, 0, none⟩ l.length) := by
    refine Lib.run_unsafeString_row w.drew 68 3 9 5 Try.underlying68 bcells g cur.size (by have hg' : w.drew.heap[g]? = some (.cells cur 5 (0, 0)) := hg; simp [World.shape?, hg']) l h0 hcs h63 ?_
    intro j x hx
    rw [addr_add, Nat.zero_add]
    exact hcell j x hx
  clear hbk hg hcell hcs hcap
  go_enter Try.func27, Try.ntmps27
  go_wp2
  go_region
  all_goals (go_wp2; go_ret; refine ⟨rfl, ?_⟩; unfold World.freeze; rw [if_neg hl0, if_neg hl0]; exact ⟨rfl, rfl, rfl, rfl⟩)

theorem step_owned {G : Gh} {w w' : World} (hw : Wf G w) {id blk : Nat} (ho : G.ow (id, 0) = some blk) (hU : G.U blk = 0) (hsz : w'.heap.size = w.heap.size) (hos : w'.os = w.os) (htp : w'.tape = w.tape) (hout : w'.output = w.output) (hoth : ∀ k, k ≠ blk → w'.heap[k]? = w.heap[k]?) :
    Step G w G w' ∧ Wf G w' ∧ ∀ κ', κ' ≠ (id, 0) → Keep G w G w' κ' := by
  have hkp : ∀ κ', κ' ≠ (id, 0) → Keep G w G w' κ' := fun κ' hk' => ⟨rfl, fun b hb => ⟨hoth b (fun he => by subst he; exact hk' (hw.inj κ' (id, 0) b hb ho)), rfl⟩⟩
  refine ⟨⟨⟨fun b => Nat.le_refl _, imm_of (fun b hb => hoth b (fun he => by subst he; omega)), by omega, hos, htp, hout, fun _ => Nat.le_refl _, fun κ h0 _ => hkp κ (by intro e; rw [e] at h0; simp at h0)⟩, fun b hb hn => ⟨hoth b (fun he => hn _ (he ▸ ho)), rfl⟩, fun κ b h => .inl ⟨κ, h⟩⟩, ⟨hw.inj, fun κ b h => ?_, fun b hb => ?_⟩, hkp⟩
  · rw [hsz]; exact hw.lt κ b h
  · exact hw.zero b (by omega)

theorem two_of {G : Gh} {w : World} {x y : SV} {arr : Array Value} (h : RepSs G w [x, y] arr.toList) : ∃ u v, arr = #[u, v] ∧ RepS G w x u ∧ RepS G w y v := by
  obtain ⟨u, us, h1, h2, v, us', h3, h4, h5⟩ := h
  simp only [RepSs] at h5; subst h5 h3
  refine ⟨u, v, ?_, h2, h4⟩
  apply Array.ext'; rw [h1]

theorem copyCheck_to (c0 s : SV) (hc : c0 = .av (.val (.pointer none)) ∨ c0 = .ptr 1000 0) (hs : s.keys = []) : CallTo Try.prog 43 [.ptr 1000 0] [(1000, .cells 53 [c0, s])] [] j0 [(1000, .cells 53 [.ptr 1000 0, s])] [] := by
  refine ⟨⟨_, Try.func43, by kernel_rfl, by kernel_rfl⟩, fun G w vs hw hargs hbx _ => ?_⟩
  obtain ⟨u, us', rfl, ⟨blk, ho, rfl⟩, hnil⟩ := hargs
  simp only [RepSs] at hnil; subst hnil
  obtain ⟨blk', arr, g1, g2, g3, g4, g5⟩ := hbx (1000, .cells 53 [c0, s]) (by simp)
  simp only at g1; rw [ho] at g1; simp at g1; subst g1
  obtain ⟨v0, v1, rfl, r0, r1⟩ := two_of g4
  have hc0 : w.cell? ⟨blk, 0, none⟩ = some v0 := by rw [Lib.cell_of_heap g2]; rfl
  have htup : ∀ (G : Gh) (w : World), RepS G w j0 (.tuple #[]) := fun G w => by simp only [RepS, Rep]; exact ⟨#[], rfl, by simp [RepL]⟩
  rcases hc with rfl | rfl
  · simp only [RepS, Rep] at r0
    obtain ⟨rfl, _⟩ := r0
    have hlt := hw.lt _ _ ho
    refine (copyCheck_fresh blk w hc0 (by simp [World.shape?, g2]) (Lib.frozen_of_heap g2 0)).mono ?_
    rintro e w' ⟨rfl, rfl⟩
    have hh : (w.setCell ⟨blk, 0, none⟩ (.pointer (some ⟨blk, 0, none⟩))).heap[blk]? = some (.cells #[.pointer (some ⟨blk, 0, none⟩), v1] 53 (0, 0)) := by
      simp [World.setCell, Array.getElem?_modify, g2]
    obtain ⟨s1, s2, s3⟩ := step_owned (w' := w.setCell ⟨blk, 0, none⟩ (.pointer (some ⟨blk, 0, none⟩))) hw ho g3 (by simp [World.setCell]) rfl rfl rfl (fun k hk => by simp [World.setCell, Array.getElem?_modify, Ne.symm hk])
    refine ⟨.tuple #[], G, rfl, s1, s2, htup _ _, fun p hp => ?_, fun i hi => s3 (i, 0) (by intro e; apply hi; have := congrArg Prod.fst e; simp at this; subst this; simp), fun _ => rfl, fun _ => rfl⟩
    simp at hp; subst hp
    refine ⟨blk, _, ho, hh, g3, ⟨_, _, rfl, ⟨blk, ho, rfl⟩, _, [], rfl, r1.persist s1.toExt (fun _ _ => rfl), rfl⟩, ?_⟩
    intro x hx
    simp at hx g5
    rcases hx with rfl | rfl
    · rfl
    · exact g5.2
  · obtain ⟨blk2, ho2, rfl⟩ := r0
    rw [ho] at ho2; simp at ho2; subst ho2
    refine (copyCheck_used blk w hc0).mono ?_
    rintro e w' ⟨rfl, rfl⟩
    refine ⟨.tuple #[], G, rfl, Step.refl _ _, hw, htup _ _, fun p hp => ?_, fun i hi => ⟨rfl, fun _ _ => ⟨rfl, rfl⟩⟩, fun _ => rfl, fun _ => rfl⟩
    simp at hp; subst hp
    exact ⟨blk, _, ho, g2, g3, g4, g5⟩

theorem copyCheck_son (s : SV) (hs : s.keys = []) : CallTo Try.prog 43 [.ptr 1000 0] [(1000, .cells 53 [.son 1000, s])] [] j0 [(1000, .cells 53 [.son 1000, s])] [] := by
  have hn := copyCheck_to (.av (.val (.pointer none))) s (.inl rfl) hs
  have hp := copyCheck_to (.ptr 1000 0) s (.inr rfl) hs
  refine ⟨hn.1, fun G w vs hw hargs hbx hg => ?_⟩
  have hb0 := hbx (1000, .cells 53 [.son 1000, s]) (by simp)
  obtain ⟨blk', arr, g1, g2, g3, g4, g5⟩ := hb0
  obtain ⟨v0, v1, rfl, r0, r1⟩ := two_of g4
  have post : Calls Try.prog 43 vs.toArray w (fun e w' => ∃ v G', e = .returned v ∧ Step G w G' w' ∧ Wf G' w' ∧ RepS G' w' j0 v ∧ (∀ p ∈ [(1000, ABox.cells 53 [.ptr 1000 0, s])], RepB G' w' p.1 p.2) ∧
      (∀ i : Nat, i ∉ [(1000, ABox.cells 53 [.ptr 1000 0, s])].map (·.1) → Keep G w G' w' (i, 0)) ∧ (∀ i, G'.ow (i, 0) = G.ow (i, 0)) ∧ ∀ κ : Key, G'.gen κ = (([] : List (Key × Nat)).lookup κ).getD (G.gen κ)) := by
    rcases r0 with rfl | ⟨blk, h1, rfl⟩
    · exact hn.2 G w vs hw hargs (fun p hp => by simp at hp; subst hp; exact ⟨blk', _, g1, g2, g3, ⟨_, _, rfl, by simp only [RepS, Rep]; exact ⟨trivial, rfl⟩, _, [], rfl, r1, rfl⟩, g5⟩) hg
    · exact hp.2 G w vs hw hargs (fun p hp => by simp at hp; subst hp; exact ⟨blk', _, g1, g2, g3, ⟨_, _, rfl, ⟨blk, h1, rfl⟩, _, [], rfl, r1, rfl⟩, g5⟩) hg
  refine post.mono ?_
  rintro e w' ⟨v, G', q1, q2, q3, q4, q5, q6, q7, q8⟩
  refine ⟨v, G', q1, q2, q3, q4, fun p hp => ?_, q6, q7, q8⟩
  simp at hp; subst hp
  obtain ⟨b2, arr2, e1, e2, e3, e4, e5⟩ := q5 (1000, .cells 53 [.ptr 1000 0, s]) (by simp)
  obtain ⟨u0, u1, rfl, f0, f1⟩ := two_of e4
  exact ⟨b2, _, e1, e2, e3, ⟨_, _, rfl, .inr f0, _, [], rfl, f1, rfl⟩, e5⟩

theorem RepL_bytes_eq {U : Nat → Nat} {w : World} : ∀ (l : List UInt8) (es : List Value), RepL U w (l.map (fun b => AV.val (.int .u8 b.toNat))) es → es = l.map (fun b => Value.int .u8 b.toNat)
  | [], es, h => by simpa [RepL] using h
  | b :: l, es, h => by
    simp only [List.map_cons, RepL] at h
    obtain ⟨u, us', rfl, h2, h3⟩ := h
    simp only [Rep] at h2
    rw [h2.1, RepL_bytes_eq l us' h3]; rfl

theorem String_to (c0 : SV) (k : Nat) (g : Nat) (s : ByteArray) (h0 : 0 < s.size) (h63 : s.size ≤ 9223372036854775807) :
    CallTo Try.prog 27 [.ptr 1000 0] [(1000, .cells 53 [c0, .own (k, 6) g 1 (bytesAV s)])] [((k, 6), g)] (.av (.val (.string s))) [(1000, .cells 53 [c0, .av (.sl (bytesAV s))])] [((k, 6), g + 1)] := by
  refine ⟨⟨_, Try.func27, by kernel_rfl, by kernel_rfl⟩, fun G w vs hw hargs hbx hgn => ?_⟩
  obtain ⟨u, us', rfl, ⟨blk, ho, rfl⟩, hnil⟩ := hargs
  simp only [RepSs] at hnil; subst hnil
  obtain ⟨blk', arr, g1, g2, g3, g4, g5⟩ := hbx (1000, .cells 53 [c0, .own (k, 6) g 1 (bytesAV s)]) (by simp)
  simp only at g1; rw [ho] at g1; simp at g1; subst g1
  have hgen : G.gen (k, 6) = g := hgn ((k, 6), g) (by simp)
  obtain ⟨v0, v1, rfl, r0, r1⟩ := two_of g4
  have rsl := r1.own_sl
  obtain ⟨_, _, a, cap, es, rfl, q2, q3, q4, qn, qsp, q5, q6⟩ := r1
  have hlen : (bytesAV s).length = s.size := by simp [bytesAV]
  have hes := RepL_bytes_eq s.data.toList es q2
  have hvc : vcells es = es := vcells_one es (fun v hv => by rw [hes] at hv; simp at hv; obtain ⟨b, _, rfl⟩ := hv; rfl)
  rcases q6 hgen with ⟨rfl, _⟩ | ⟨gb, off, cur, e, rfl, o1, o2, o3, o4, rfl, o5⟩
  · have := qn rfl
    rw [this] at hes
    have h1 := congrArg List.length hes
    rw [List.length_map, show s.data.toList.length = s.size by simp] at h1
    simp only [List.length_nil] at h1
    exact absurd h1.symm (Nat.ne_of_gt h0)
  · have he : e = 5 := by simpa using o5
    subst he
    have hne : gb ≠ blk := fun h => by
      have := hw.inj (k, 6) (1000, 0) blk (by rw [← h]; exact o1) ho
      simp at this
    have hl0 : s.data.toList ≠ [] := by intro h; have h1 := congrArg List.length h; rw [show s.data.toList.length = s.size by simp] at h1; simp only [List.length_nil] at h1; exact absurd h1 (Nat.ne_of_gt h0)
    have hll : s.data.toList.length = s.size := by simp
    refine (String_calls blk gb (bytesAV s).length cap v0 cur s.data.toList w hl0 (by rw [hlen, hll]) (by rw [hll, ← hlen]; exact q4) (by rw [hll]; simp only [Nat.zero_add, Nat.mul_one] at o3; rw [hlen] at q4; exact Nat.le_trans q4 o3) (by rw [hll]; exact h63) g2 o2 (fun j x hx => ?_)).mono ?_
    · rcases q5 with h | ⟨b', off', h1, h2, h3⟩
      · rw [hvc, hes] at h; simp at h; exact absurd h (by simpa using hl0)
      · simp at h1; obtain ⟨rfl, rfl⟩ := h1
        have := (h3 j (.int .u8 x.toNat) (by rw [hvc, hes]; simp [hx])).1
        simpa using this
    · rintro e w' ⟨rfl, hh, hos, htp, hout⟩
      have hfz : w'.heap = w.heap.modify gb (fun | .cells c elem (lo, hi) => .cells c elem (if lo == hi then (0, 0 + s.data.toList.length) else (min lo 0, max hi (0 + s.data.toList.length))) | o => o) := by
        rw [hh]; unfold World.freeze; rw [if_neg (by rw [hll]; omega)]; rfl
      have hoth : ∀ i, i ≠ gb → w'.heap[i]? = w.heap[i]? := fun i hi => by rw [hfz, Array.getElem?_modify, if_neg (Ne.symm hi)]
      have hsize : w'.heap.size = w.heap.size := by rw [hfz]; simp
      obtain ⟨fz, hgb⟩ : ∃ fz, w'.heap[gb]? = some (.cells cur 5 fz) := by rw [hfz, Array.getElem?_modify, if_pos rfl, o2]; exact ⟨_, rfl⟩
      have hcell : ∀ b o, w'.cell? ⟨b, o, none⟩ = w.cell? ⟨b, o, none⟩ := fun b o => by
        by_cases hb : b = gb
        · subst hb; simp [World.cell?, hgb, o2]
        · exact cell_of_heap (hoth b hb) o
      have himm : Imm G.U w w' := ⟨fun b o _ => hcell b o, fun b es' cl _ hm => by
        have : b ≠ gb := by intro h; subst h; rw [o2] at hm; simp at hm
        rw [hoth b this]; exact hm⟩
      have hkp : ∀ κ, κ ≠ (k, 6) → Keep G w { G with gen := fun κ => if κ = (k, 6) then G.gen κ + 1 else G.gen κ } w' κ := fun κ hκ => ⟨rfl, fun b hb => ⟨hoth b (fun h => by subst h; exact hκ (hw.inj κ (k, 6) b hb o1)), rfl⟩⟩
      have hext : Ext G w { G with gen := fun κ => if κ = (k, 6) then G.gen κ + 1 else G.gen κ } w' := by
        refine ⟨fun _ => Nat.le_refl _, himm, by omega, hos, htp, hout, fun κ => ?_, fun κ _ hg => hkp κ (fun h => ?_)⟩
        · simp only; split <;> omega
        · subst h; simp at hg
      refine ⟨.string ⟨s.data.toList.toArray⟩, { G with gen := fun κ => if κ = (k, 6) then G.gen κ + 1 else G.gen κ }, rfl, ⟨hext, fun b _ hn => ⟨hoth b (fun h => hn (k, 6) (by rw [h]; exact o1)), rfl⟩, fun κ b h => .inl ⟨κ, h⟩⟩,
        ⟨hw.inj, fun κ b h => by rw [hsize]; exact hw.lt κ b h, fun b hb => hw.zero b (by omega)⟩, ?_, fun p hp => ?_, fun i hi => hkp (i, 0) (by simp), fun _ => rfl, fun κ => ?_⟩
      · simp only [RepS, Rep]; exact ⟨by simp, rfl⟩
      · simp at hp; subst hp
        refine ⟨blk, _, ho, by rw [hoth blk (Ne.symm hne)]; exact g2, g3, ⟨_, _, rfl, r0.persist hext (fun κ hκ => ?_), _, [], rfl, Rep.mono (fun _ => Nat.le_refl _) himm _ _ rsl, rfl⟩, g5⟩
        rfl
      · simp only [List.lookup_cons, List.lookup_nil]
        by_cases hk : κ = (k, 6)
        · subst hk; simp [hgen]
        · have : (κ == (k, 6)) = false := by simpa using hk
          simp [this, hk]

end Go.Proofs.Ytdaglbjgdakmcaa
