/- Texts joined by a program (merge.py). -/
import Derived.Test.YthbpjmogdonlkaaGreatDoorMdb
import Derived.Test.YthbpjmogdonlkaaGreatDoorMdd
import Derived.Lib.Builder
import Derived.Lib.UnsafeStr
import Derived.Lib.AppendStr
import Derived.WalkKit
import Derived.Laws.Externs
import Derived.RegionTactic
import Derived.KernelRfl
import Derived.Test.YthbpjmogdonlkaaGreatDoorMde
import Derived.Lib.OthersKept
import Derived.Lib.Strings
set_option linter.unusedSimpArgs false
set_option linter.unusedVariables false
set_option maxRecDepth 100000
set_option maxHeartbeats 4000000
namespace Go.Proofs.YthbpjmogdonlkaaGreatDoor
open Go Go.Eng Go.RowKit
theorem n_bsize : (Tryz.prog.info? 80).map (·.size) = some 2 := by kernel_rfl
theorem n_blies : liesAt Tryz.prog Tryz.prog.depth 80 (2 / Tryz.prog.cellsOf 80) 0 80 1 = true := by kernel_rfl
theorem n_bcells : Tryz.prog.cellsOf 5 = 1 := by kernel_rfl
set_option maxHeartbeats 1000000 in
theorem n_copyCheck_used (b : Nat) (w : World) (h0 : w.cell? ⟨b, 0, none⟩ = some (.pointer (some ⟨b, 0, none⟩))) :
  Calls Tryz.prog 83 #[.pointer (some ⟨b, 0, none⟩)] w fun e w' => e = .returned (.tuple #[]) ∧ w' = w := by
 obtain ⟨j, hj, _⟩ := Option.map_eq_some_iff.1 n_bsize
 go_enter Tryz.func83, Tryz.ntmps83
 go_wp2
 rw [Lib.run_neq_ptr_same w _ Tryz.underlying78 hj]
 go_wp2
 go_end0
 exact ⟨rfl, rfl⟩
set_option maxHeartbeats 1000000 in
theorem n_copyCheck_fresh (b : Nat) (w : World) (h0 : w.cell? ⟨b, 0, none⟩ = some (.pointer none)) (hsh : w.shape? b = some (80, 2)) (hfz : w.frozen? ⟨b, 0, none⟩ = false) :
  Calls Tryz.prog 83 #[.pointer (some ⟨b, 0, none⟩)] w fun e w' => e = .returned (.tuple #[]) ∧ w' = w.setCell ⟨b, 0, none⟩ (.pointer (some ⟨b, 0, none⟩)) := by
 obtain ⟨j, hj, hjs⟩ := Option.map_eq_some_iff.1 n_bsize
 go_enter Tryz.func83, Tryz.ntmps83
 go_wp2
 rw [Lib.run_to_unsafe w ⟨b, 0, none⟩ Tryz.underlying78 Tryz.underlying174 hj (by rw [hjs]; decide) hsh (Nat.zero_lt_succ 1)]
 simp only [Result.andThen]
 rw [Oper.upon_value]
 go_wp2
 rw [run_callFunc_extern Tryz.func126 (by kernel_rfl) (by kernel_rfl) (by kernel_rfl) (e := Extern.AbiNoEscape.same) (by kernel_rfl)]
 rw [Lib.run_noEscape]
 simp only [Result.andThen]
 rw [Oper.upon_value]
 go_wp2
 rw [Lib.run_from_unsafe w ⟨b, 0, none⟩ Tryz.underlying174 Tryz.underlying78 hj hsh n_blies]
 simp only [Result.andThen]
 rw [Oper.upon_value]
 go_wp2
 go_end0
 exact ⟨rfl, rfl⟩
theorem lies_off {P : Program} {e : TypeId} (hc : P.cellsOf e = 1) (count off n : Nat) (hn : off + n ≤ count) : liesAt P P.depth e count off e n = true := by
 have hd : P.depth = (2 * (P.types.size + Made.depth) + 1) + 1 := rfl
 rw [hd]
 simp only [liesAt, Bool.or_eq_true]
 left
 rw [hd]
 simp [rowAt, hc, hn, sameLayout, Nat.mod_one]
theorem run_ustr_off {P : Program} {w : World} (pt it ty e : TypeId) (hp : P.underlying pt = some (.pointer e)) (hc : P.cellsOf e = 1) (g off cells : Nat) (hsh : w.shape? g = some (e, cells)) (l : List UInt8) (h0 : l ≠ []) (hn : off + l.length ≤ cells) (h63 : l.length ≤ 9223372036854775807)
  (hcell : ∀ j x, l[j]? = some x → w.cell? ((⟨g, off, none⟩ : Addr).add j) = some (.int .u8 x.toNat)) :
  (Builtin.unsafeString_ #[pt, it] ty #[.pointer (some ⟨g, off, none⟩), .int .i64 l.length]).run P w = .ok (.string ⟨l.toArray⟩) (w.freeze ⟨g, off, none⟩ l.length) := by
 have hl : l.length ≠ 0 := by simpa using h0
 have hlb := Lib.run_loadBytes (P := P) (w := w) l ⟨g, off, none⟩ .empty hcell
 have hlies := lies_off (P := P) hc (cells / P.cellsOf e) off l.length (by rw [hc]; simpa using hn)
 have h63' : ¬ (9223372036854775807 : Int) < (l.length : Int) := by omega
 have hdef : Builtin.unsafeString_ #[pt, it] ty #[.pointer (some ⟨g, off, none⟩), .int .i64 l.length] =
   (do
    let n ← asInt (.int .i64 l.length)
    if n < 0 then runtimePanic (.error "unsafe.String: len out of range")
    if n > IntKind.i64.max then unsupported (.unsafePointer "String: a length above the largest int")
    if n = 0 then pure (.string .empty)
    else if ← variablesAt ⟨g, off, none⟩ (← elemOf pt) n.toNat then do
     let s ← loadBytes ⟨g, off, none⟩ .empty n.toNat
     freeze ⟨g, off, none⟩ n.toNat
     pure (.string s)
    else unsupported (.unsafePointer "String: not so many bytes at ptr")) := rfl
 rw [hdef]
 have hmax : IntKind.i64.max = 9223372036854775807 := rfl
 have hneg : ¬ (l.length : Int) < 0 := by omega
 simp [asInt, asIntOf, hmax, h63', hneg, hl, variablesAt, hsh, elemOf, run_underlying hp, hlies, hlb]
set_option maxHeartbeats 1000000 in
theorem String_calls (b g off n cap : Nat) (p : Value) (cur : Array Value) (l : List UInt8) (w : World) (h0 : l ≠ []) (hn : n = l.length) (hcap : l.length ≤ cap) (hcs : off + l.length ≤ cur.size) (h63 : l.length ≤ 9223372036854775807)
  (hbk : w.heap[b]? = some (.cells #[p, .slice (some ⟨g, off, none⟩) n cap] 80 (0, 0))) (hg : w.heap[g]? = some (.cells cur 5 (0, 0))) (hcell : ∀ j x, l[j]? = some x → w.cell? ⟨g, off + j, none⟩ = some (.int .u8 x.toNat)) :
  Calls Tryz.prog 38 #[.pointer (some ⟨b, 0, none⟩)] w fun e w' => e = .returned (.string ⟨l.toArray⟩) ∧ w'.heap = (w.freeze ⟨g, off, none⟩ l.length).heap ∧ w'.os = w.os ∧ w'.tape = w.tape ∧ w'.output = w.output := by
 subst hn
 have hl0 : l.length ≠ 0 := by simpa using h0
 have c1 : w.drew.cell? ⟨b, 1, none⟩ = some (.slice (some ⟨g, off, none⟩) l.length cap) := by
  have : w.drew.heap[b]? = some (.cells #[p, .slice (some ⟨g, off, none⟩) l.length cap] 80 (0, 0)) := hbk
  rw [Lib.cell_of_heap this]; rfl
 have hSD : (Builtin.unsafeSliceData_ #[33] 132 #[.slice (some ⟨g, off, none⟩) l.length cap]).run Tryz.prog w.drew = .ok (.pointer (some ⟨g, off, none⟩)) w.drew :=
  Lib.run_unsafeSliceData_row _ _ _ _ _ _ (by omega)
 have hUS : (Builtin.unsafeString_ #[132, 3] 9 #[.pointer (some ⟨g, off, none⟩), .int .i64 l.length]).run Tryz.prog w.drew = .ok (.string ⟨l.toArray⟩) (w.drew.freeze ⟨g, off, none⟩ l.length) := by
  refine run_ustr_off 132 3 9 5 Tryz.underlying132 n_bcells g off cur.size (by have hg' : w.drew.heap[g]? = some (.cells cur 5 (0, 0)) := hg; simp [World.shape?, hg']) l h0 hcs h63 ?_
  intro j x hx
  rw [addr_add]
  exact hcell j x hx
 clear hbk hg hcell hcs hcap
 go_enter Tryz.func38, Tryz.ntmps38
 go_wp2
 go_region
 all_goals (go_wp2; go_ret; refine ⟨rfl, ?_⟩; unfold World.freeze; rw [if_neg hl0, if_neg hl0]; exact ⟨rfl, rfl, rfl, rfl⟩)
theorem step_owned {G : Gh} {w w' : World} (hw : Wf G w) {id blk : Nat} (ho : G.ow (id, 0) = some blk) (hU : G.U blk = 0) (hsz : w'.heap.size = w.heap.size) (hos : w'.os = w.os) (htp : w'.tape = w.tape) (hout : w'.output = w.output) (hoth : ∀ k, k ≠ blk → w'.heap[k]? = w.heap[k]?) :
  Step G w G w' ∧ Wf G w' ∧ ∀ κ', κ' ≠ (id, 0) → Keep G w G w' κ' := by
 have hkp : ∀ κ', κ' ≠ (id, 0) → Keep G w G w' κ' := fun κ' hk' => ⟨rfl, fun b hb => ⟨hoth b (fun he => by subst he; exact hk' (hw.inj κ' (id, 0) b hb ho)), rfl⟩⟩
 refine ⟨⟨⟨fun b => Nat.le_refl _, imm_of (fun b hb => hoth b (fun he => by subst he; omega)), by omega, hos, by rw [htp], hout, fun _ _ => rfl, fun _ => Nat.le_refl _, fun κ h0 _ => hkp κ (by intro e; rw [e] at h0; simp at h0)⟩, fun b hb hn => ⟨hoth b (fun he => hn _ (he ▸ ho)), rfl⟩, fun κ b h => .inl ⟨κ, h⟩⟩, ⟨hw.inj, fun κ b h => ?_, fun b hb => ?_⟩, hkp⟩
 ·rw [hsz]; exact hw.lt κ b h
 ·exact hw.zero b (by omega)
theorem two_of {G : Gh} {w : World} {x y : SV} {arr : Array Value} (h : RepSs G w [x, y] arr.toList) : ∃ u v, arr = #[u, v] ∧ RepS G w x u ∧ RepS G w y v := by
 obtain ⟨u, us, h1, h2, v, us', h3, h4, h5⟩ := h
 simp only [RepSs] at h5; subst h5 h3
 refine ⟨u, v, ?_, h2, h4⟩
 apply Array.ext'; rw [h1]
theorem copyCheck_to (c0 s : SV) (hc : c0 = .av (.val (.pointer none)) ∨ c0 = .ptr 1000 0) (hs : s.keys = []) : CallTo Tryz.prog 83 [.ptr 1000 0] [(1000, .cells 80 [c0, s])] [] j0 [(1000, .cells 80 [.ptr 1000 0, s])] [] := by
 refine ⟨⟨_, Tryz.func83, by kernel_rfl, by kernel_rfl⟩, fun G w vs hw hargs hbx _ => ?_⟩
 obtain ⟨u, us', rfl, ⟨blk, ho, rfl⟩, hnil⟩ := hargs
 simp only [RepSs] at hnil; subst hnil
 obtain ⟨blk', arr, g1, g2, g3, g4, g5⟩ := hbx (1000, .cells 80 [c0, s]) (by simp)
 simp only at g1; rw [ho] at g1; simp at g1; subst g1
 obtain ⟨v0, v1, rfl, r0, r1⟩ := two_of g4
 have hc0 : w.cell? ⟨blk, 0, none⟩ = some v0 := by rw [Lib.cell_of_heap g2]; rfl
 have htup : ∀ (G : Gh) (w : World), RepS G w j0 (.tuple #[]) := fun G w => by simp only [RepS, Rep]; exact ⟨#[], rfl, by simp [RepL]⟩
 rcases hc with rfl | rfl
 ·simp only [RepS, Rep] at r0
  obtain ⟨rfl, _⟩ := r0
  have hlt := hw.lt _ _ ho
  refine (n_copyCheck_fresh blk w hc0 (by simp [World.shape?, g2]) (Lib.frozen_of_heap g2 0)).mono ?_
  rintro e w' ⟨rfl, rfl⟩
  have hh : (w.setCell ⟨blk, 0, none⟩ (.pointer (some ⟨blk, 0, none⟩))).heap[blk]? = some (.cells #[.pointer (some ⟨blk, 0, none⟩), v1] 80 (0, 0)) := by
   simp [World.setCell, Array.getElem?_modify, g2]
  obtain ⟨s1, s2, s3⟩ := step_owned (w' := w.setCell ⟨blk, 0, none⟩ (.pointer (some ⟨blk, 0, none⟩))) hw ho g3 (by simp [World.setCell]) rfl rfl rfl (fun k hk => by simp [World.setCell, Array.getElem?_modify, Ne.symm hk])
  refine ⟨.tuple #[], G, rfl, s1, s2, htup _ _, fun p hp => ?_, fun i hi => s3 (i, 0) (by intro e; apply hi; have := congrArg Prod.fst e; simp at this; subst this; simp), fun _ _ => rfl, fun _ => rfl⟩
  simp at hp; subst hp
  refine ⟨blk, _, ho, hh, g3, ⟨_, _, rfl, ⟨blk, ho, rfl⟩, _, [], rfl, r1.persist s1.toExt (fun _ _ => rfl), rfl⟩, ?_⟩
  intro x hx
  simp at hx g5
  rcases hx with rfl | rfl
  ·rfl
  ·exact g5.2
 ·obtain ⟨blk2, ho2, rfl⟩ := r0
  rw [ho] at ho2; simp at ho2; subst ho2
  refine (n_copyCheck_used blk w hc0).mono ?_
  rintro e w' ⟨rfl, rfl⟩
  refine ⟨.tuple #[], G, rfl, Step.refl _ _, hw, htup _ _, fun p hp => ?_, fun i hi => ⟨rfl, fun _ _ => ⟨rfl, rfl⟩⟩, fun _ _ => rfl, fun _ => rfl⟩
  simp at hp; subst hp
  exact ⟨blk, _, ho, g2, g3, g4, g5⟩
theorem copyCheck_son (s : SV) (hs : s.keys = []) : CallTo Tryz.prog 83 [.ptr 1000 0] [(1000, .cells 80 [.son 1000, s])] [] j0 [(1000, .cells 80 [.son 1000, s])] [] := by
 have hn := copyCheck_to (.av (.val (.pointer none))) s (.inl rfl) hs
 have hp := copyCheck_to (.ptr 1000 0) s (.inr rfl) hs
 refine ⟨hn.1, fun G w vs hw hargs hbx hg => ?_⟩
 have hb0 := hbx (1000, .cells 80 [.son 1000, s]) (by simp)
 obtain ⟨blk', arr, g1, g2, g3, g4, g5⟩ := hb0
 obtain ⟨v0, v1, rfl, r0, r1⟩ := two_of g4
 have post : Calls Tryz.prog 83 vs.toArray w (fun e w' => ∃ v G', e = .returned v ∧ Step G w G' w' ∧ Wf G' w' ∧ RepS G' w' j0 v ∧ (∀ p ∈ [(1000, ABox.cells 80 [.ptr 1000 0, s])], RepB G' w' p.1 p.2) ∧
   (∀ i : Nat, i ∉ [(1000, ABox.cells 80 [.ptr 1000 0, s])].map (·.1) → Keep G w G' w' (i, 0)) ∧ (∀ i, i ∉ vecIds [(1000, ABox.cells 80 [.ptr 1000 0, s])] → G'.ow (i, 0) = G.ow (i, 0)) ∧ ∀ κ : Key, G'.gen κ = (([] : List (Key × Nat)).lookup κ).getD (G.gen κ)) := by
  rcases r0 with rfl | ⟨blk, h1, rfl⟩
  ·exact hn.2 G w vs hw hargs (fun p hp => by simp at hp; subst hp; exact ⟨blk', _, g1, g2, g3, ⟨_, _, rfl, by simp only [RepS, Rep]; exact ⟨trivial, rfl⟩, _, [], rfl, r1, rfl⟩, g5⟩) hg
  ·exact hp.2 G w vs hw hargs (fun p hp => by simp at hp; subst hp; exact ⟨blk', _, g1, g2, g3, ⟨_, _, rfl, ⟨blk, h1, rfl⟩, _, [], rfl, r1, rfl⟩, g5⟩) hg
 refine post.mono ?_
 rintro e w' ⟨v, G', q1, q2, q3, q4, q5, q6, q7, q8⟩
 refine ⟨v, G', q1, q2, q3, q4, fun p hp => ?_, q6, q7, q8⟩
 simp at hp; subst hp
 obtain ⟨b2, arr2, e1, e2, e3, e4, e5⟩ := q5 (1000, .cells 80 [.ptr 1000 0, s]) (by simp)
 obtain ⟨u0, u1, rfl, f0, f1⟩ := two_of e4
 exact ⟨b2, _, e1, e2, e3, ⟨_, _, rfl, .inr f0, _, [], rfl, f1, rfl⟩, e5⟩
theorem RepL_bytes_eq {U : Nat → Nat} {w : World} : ∀ (l : List UInt8) (es : List Value), RepL U w (l.map (fun b => AV.val (.int .u8 b.toNat))) es → es = l.map (fun b => Value.int .u8 b.toNat)
 | [], es, h => by simpa [RepL] using h
 | b :: l, es, h => by
  simp only [List.map_cons, RepL] at h
  obtain ⟨u, us', rfl, h2, h3⟩ := h
  simp only [Rep] at h2
  rw [h2.1, RepL_bytes_eq l us' h3]; rfl
theorem String_to (c0 : SV) (k : Nat) (g : Nat) (s : ByteArray) (h0 : 0 < s.size) (h63 : s.size ≤ 9223372036854775807) :
  CallTo Tryz.prog 38 [.ptr 1000 0] [(1000, .cells 80 [c0, .own (k, 6) g 1 (bytesAV s)])] [((k, 6), g)] (.av (.val (.string s))) [(1000, .cells 80 [c0, .av (.sl (bytesAV s))])] [((k, 6), g + 1)] := by
 refine ⟨⟨_, Tryz.func38, by kernel_rfl, by kernel_rfl⟩, fun G w vs hw hargs hbx hgn => ?_⟩
 obtain ⟨u, us', rfl, ⟨blk, ho, rfl⟩, hnil⟩ := hargs
 simp only [RepSs] at hnil; subst hnil
 obtain ⟨blk', arr, g1, g2, g3, g4, g5⟩ := hbx (1000, .cells 80 [c0, .own (k, 6) g 1 (bytesAV s)]) (by simp)
 simp only at g1; rw [ho] at g1; simp at g1; subst g1
 have hgen : G.gen (k, 6) = g := hgn ((k, 6), g) (by simp)
 obtain ⟨v0, v1, rfl, r0, r1⟩ := two_of g4
 have rsl := r1.own_sl
 obtain ⟨_, _, a, cap, es, rfl, q2, q3, q4, qn, qsp, q5, q6⟩ := r1
 have hlen : (bytesAV s).length = s.size := by simp [bytesAV]
 have hes := RepL_bytes_eq s.data.toList es q2
 have hvc : vcells es = es := vcells_one es (fun v hv => by rw [hes] at hv; simp at hv; obtain ⟨b, _, rfl⟩ := hv; rfl)
 rcases q6 hgen with hcap0 | ⟨gb, off, cur, e, rfl, o1, o2, o3, o4, o5⟩
 ·rw [hlen] at q4
  exact absurd h0 (by omega)
 ·have he : e = 5 := by simpa using o5
  subst he
  have hne : gb ≠ blk := fun h => by
   have := hw.inj (k, 6) (1000, 0) blk (by rw [← h]; exact o1) ho
   simp at this
  have hl0 : s.data.toList ≠ [] := by intro h; have h1 := congrArg List.length h; rw [show s.data.toList.length = s.size by simp] at h1; simp only [List.length_nil] at h1; exact absurd h1 (Nat.ne_of_gt h0)
  have hll : s.data.toList.length = s.size := by simp
  refine (String_calls blk gb off (bytesAV s).length cap v0 cur s.data.toList w hl0 (by rw [hlen, hll]) (by rw [hll, ← hlen]; exact q4) (by rw [hll]; simp only [Nat.mul_one] at o3; rw [hlen] at q4; omega) (by rw [hll]; exact h63) g2 o2 (fun j x hx => ?_)).mono ?_
  ·rcases q5 with h | ⟨b', off', h1, h2, h3⟩
   ·rw [hvc, hes] at h; simp at h; exact absurd h (by simpa using hl0)
   ·simp at h1; obtain ⟨rfl, rfl⟩ := h1
    have := (h3 j (.int .u8 x.toNat) (by rw [hvc, hes]; simp [hx])).1
    simpa using this
  ·rintro e w' ⟨rfl, hh, hos, htp, hout⟩
   have hfz : w'.heap = w.heap.modify gb (fun | .cells c elem (lo, hi) => .cells c elem (if lo == hi then (off, off + s.data.toList.length) else (min lo off, max hi (off + s.data.toList.length))) | o => o) := by
    rw [hh]; unfold World.freeze; rw [if_neg (by rw [hll]; omega)]; rfl
   have hoth : ∀ i, i ≠ gb → w'.heap[i]? = w.heap[i]? := fun i hi => by rw [hfz, Array.getElem?_modify, if_neg (Ne.symm hi)]
   have hsize : w'.heap.size = w.heap.size := by rw [hfz]; simp
   obtain ⟨fz, hgb⟩ : ∃ fz, w'.heap[gb]? = some (.cells cur 5 fz) := by rw [hfz, Array.getElem?_modify, if_pos rfl, o2]; exact ⟨_, rfl⟩
   have hcell : ∀ b o, w'.cell? ⟨b, o, none⟩ = w.cell? ⟨b, o, none⟩ := fun b o => by
    by_cases hb : b = gb
    ·subst hb; simp [World.cell?, hgb, o2]
    ·exact cell_of_heap (hoth b hb) o
   have himm : Imm G.U w w' := ⟨fun b o _ => hcell b o, fun b es' cl _ hm => by
    have : b ≠ gb := by intro h; subst h; rw [o2] at hm; simp at hm
    rw [hoth b this]; exact hm⟩
   have hkp : ∀ κ, κ ≠ (k, 6) → Keep G w { G with gen := fun κ => if κ = (k, 6) then G.gen κ + 1 else G.gen κ } w' κ := fun κ hκ => ⟨rfl, fun b hb => ⟨hoth b (fun h => by subst h; exact hκ (hw.inj κ (k, 6) b hb o1)), rfl⟩⟩
   have hext : Ext G w { G with gen := fun κ => if κ = (k, 6) then G.gen κ + 1 else G.gen κ } w' := by
    refine ⟨fun _ => Nat.le_refl _, himm, by omega, hos, by rw [htp], hout, fun _ _ => rfl, fun κ => ?_, fun κ _ hg => hkp κ (fun h => ?_)⟩
    ·simp only; split <;> omega
    ·subst h; simp at hg
   refine ⟨.string ⟨s.data.toList.toArray⟩, { G with gen := fun κ => if κ = (k, 6) then G.gen κ + 1 else G.gen κ }, rfl, ⟨hext, fun b _ hn => ⟨hoth b (fun h => hn (k, 6) (by rw [h]; exact o1)), rfl⟩, fun κ b h => .inl ⟨κ, h⟩⟩,
    ⟨hw.inj, fun κ b h => by rw [hsize]; exact hw.lt κ b h, fun b hb => hw.zero b (by omega)⟩, ?_, fun p hp => ?_, fun i hi => hkp (i, 0) (by simp), fun _ _ => rfl, fun κ => ?_⟩
   ·simp only [RepS, Rep]; exact ⟨by simp, rfl⟩
   ·simp at hp; subst hp
    refine ⟨blk, _, ho, by rw [hoth blk (Ne.symm hne)]; exact g2, g3, ⟨_, _, rfl, r0.persist hext (fun κ hκ => ?_), _, [], rfl, Rep.mono (fun _ => Nat.le_refl _) himm _ _ rsl, rfl⟩, g5⟩
    rfl
   ·simp only [List.lookup_cons, List.lookup_nil]
    by_cases hk : κ = (k, 6)
    ·subst hk; simp [hgen]
    ·have : (κ == (k, 6)) = false := by simpa using hk
     simp [this, hk]
end Go.Proofs.YthbpjmogdonlkaaGreatDoor
namespace Go.Proofs.YthbpjmogdonlkaaGreatDoor
open Go Go.Eng
def bldA (t : ByteArray) (g : Nat) : ABox := .cells 80 [.son 1000, .own (1300, 6) g 1 (bytesAV t)]
def bldG (g : Nat) : List (Key × Nat) := [((1300, 6), g)]
theorem bytes_len1 (s : ByteArray) : (bytesAV s).length = s.size := by simp [bytesAV]
def u8 (c : Int) : UInt8 := c.toNat.toUInt8
theorem okBld (t : ByteArray) (g g' : Nat) (h : g = g') : ∀ p ∈ [(1000, bldA t g)], ∀ s ∈ p.2.svs, OkSV [1000] (bldG g') s := by
 subst h
 intro p hp s hs
 simp only [List.mem_cons, List.not_mem_nil, or_false] at hp
 subst hp
 simp only [bldA, ABox.svs, List.mem_cons, List.not_mem_nil, or_false] at hs
 rcases hs with rfl | rfl
 ·simp [OkSV, SV.keys]
 ·simp [OkSV, bldG, List.lookup]
end Go.Proofs.YthbpjmogdonlkaaGreatDoor
namespace Go.Proofs.YthbpjmogdonlkaaGreatDoor
open Go Go.Eng
theorem bytes_cat1 (s t : ByteArray) : bytesAV (s ++ t) = bytesAV s ++ bytesAV t := by simp [bytesAV]
theorem bytes_uni1 (s : ByteArray) : Uni 1 (bytesAV s) := by
 intro y hy
 simp only [bytesAV, List.mem_map] at hy
 obtain ⟨b, _, rfl⟩ := hy
 exact ⟨rfl, rfl⟩
theorem WriteString_to (t s : ByteArray) (g : Nat) (hsz : t.size + s.size ≤ 3000000000) : CallTo Tryz.prog 43 [.ptr 1000 0, jS s] [(1000, bldA t g)] (bldG g) (.av (.tup [.val (.int .i64 ((ByteArray.size s : Nat) : Int)), .val .nilIface])) [(1000, bldA (t ++ s) (g + 1))] (bldG (g + 1)) := by
 refine BEGb (fun _ : Unit => .av (.tup [.val (.int .i64 ((ByteArray.size s : Nat) : Int)), .val .nilIface])) () Tryz.func43 (by kernel_rfl) (by simp) (by simp [bldG]) (by simp [OkSV, SV.keys]) (okBld t g g rfl) (by simp [OkSV, SV.keys]) (okBld _ _ _ rfl) rfl rfl ?_
 have hap : (g : Nat) = g ∧ Uni 1 (bytesAV s) ∧ ((bytesAV t : List AV).length + (bytesAV s : List AV).length) * 1 ≤ 140737488355328 := ⟨rfl, bytes_uni1 s, by rw [bytes_len1, bytes_len1]; omega⟩
 refine GO (tn 3 (kg (copyCheck_son (.own (1300, 6) g 1 (bytesAV t)) rfl) trivial (tn 6 (kp hap (kw (show (bytesAV t ++ bytesAV s : List AV) = bytesAV (t ++ s) from (bytes_cat1 t s).symm) (tn 7 z)))))) (by kernel_rfl) ?_
 refine ENb (by kernel_rfl) ?_ ?_
 ·intro p hp
  simp only [List.mem_cons, List.not_mem_nil, or_false] at hp
  subst hp; kernel_rfl
 ·intro p hp
  simp only [bldG, List.mem_cons, List.not_mem_nil, or_false] at hp
  subst hp; kernel_rfl
end Go.Proofs.YthbpjmogdonlkaaGreatDoor
namespace Go.Proofs.YthbpjmogdonlkaaGreatDoor
open Go Go.Eng
theorem mg0_to : CallTo Tryz.prog 21 [jL []] [] [] (jL []) [] [] := by
 refine bG Tryz.func21 ?_
 refine GO (tn 3 z) (by kernel_rfl) ?_
 refine uN (sx 73 [(0, jL []), (3, .nil), (4, jI 0)] [] []) 1 ?_
 refine GO (tn 4 (kb (b := decide ((0 : Int) < ((0 : Nat) : Int))) (d := false) rfl z)) (by kernel_rfl) ?_
 refine uO (tn 2 z) ?_
 exact eN
theorem mgI_to (x : DInline) (hk : x.fKids = []) (ha : wAttr x.fAttr ≤ 1073741824) (h1 : x.fArgs.length ≤ 1073741824) (h2 : x.fCites.length ≤ 1073741824) : CallTo Tryz.prog 42 [.av (cInline x)] [] [] (.av (cInline x)) [] [] := by
 have c1 := cpyT_to x.fAttr ha
 have c2 := clnS_to x.fArgs h1
 have c3 := clnC_to x.fCites h2
 have c4 := mg0_to
 obtain ⟨k, t, d, ti, at', ar, ci, ki⟩ := x
 simp only at hk
 subst hk
 refine bG Tryz.func42 ?_
 refine GO (tn 4 (kc c1 (tn 4 (kc c2 (tn 4 (kc c3 (tn 4 (kc c4 (tn 4 z))))))))) (by kernel_rfl) ?_
 exact eN
def mgc (x : DInline) (r : List DInline) : List DInline := match r with
 | [] => [x]
 | y :: q => if x.fKind = 1 ∧ y.fKind = 1 then { x with fText := x.fText ++ y.fText } :: q else x :: y :: q
def mgL : List DInline → List DInline
 | [] => []
 | x :: l => mgc x (mgL l)
theorem ba_nil (s : ByteArray) : s ++ (⟨#[]⟩ : ByteArray) = s := by apply ByteArray.ext; simp
theorem nil_ba (s : ByteArray) : (⟨#[]⟩ : ByteArray) ++ s = s := by apply ByteArray.ext; simp
theorem sz0 : ByteArray.size (⟨#[]⟩ : ByteArray) = 0 := rfl
def catT : List DInline → ByteArray
 | [] => ⟨#[]⟩
 | x :: l => x.fText ++ catT l
theorem catT_snoc (l : List DInline) (x : DInline) : catT (l ++ [x]) = catT l ++ x.fText := by
 induction l with
 | nil => simp only [List.nil_append, catT]; rw [ba_nil, nil_ba]
 | cons y l ih => simp [catT, ih, ByteArray.append_assoc]
theorem mgc_n {x : DInline} {r : List DInline} (h : x.fKind ≠ 1) : mgc x r = x :: r := by
 unfold mgc; cases r with
 | nil => rfl
 | cons y q => simp only; rw [if_neg (fun e => h e.1)]
theorem mg_run (rest : List DInline) (hr : ∀ y q, rest = y :: q → y.fKind ≠ 1) : ∀ (l : List DInline) (x : DInline), x.fKind = 1 → (∀ y ∈ l, y.fKind = 1) → mgL (x :: (l ++ rest)) = { x with fText := x.fText ++ catT l } :: mgL rest := by
 intro l
 induction l with
 | nil =>
  intro x hx _
  simp only [List.nil_append, catT]
  rw [ba_nil]
  cases rest with
  | nil => cases x; rfl
  | cons y q =>
   have hy := hr y q rfl
   have e : mgL (x :: y :: q) = x :: mgL (y :: q) := by
    show mgc x (mgc y (mgL q)) = x :: mgc y (mgL q)
    rw [mgc_n hy]
    unfold mgc
    simp only
    rw [if_neg (fun e => hy e.2)]
   rw [e]; cases x; rfl
 | cons y l ih =>
  intro x hx hl
  have hy := hl y (by simp)
  have := ih y hy (fun w hw => hl w (by simp [hw]))
  show mgc x (mgL (y :: (l ++ rest))) = _
  rw [this]
  unfold mgc
  simp only
  rw [if_pos ⟨hx, hy⟩, ← ByteArray.append_assoc]
  simp [catT, ByteArray.append_assoc]
theorem eqs_sz {s : ByteArray} (h : eqs s ⟨#[]⟩ = true) : s.size = 0 := by
 unfold eqs at h
 have := eq_of_beq h
 have h2 := congrArg List.length this
 simpa using h2
structure MgOk (xs : List DInline) : Prop where
 len : xs.length ≤ 1073741824
 tot : (catT xs).size ≤ 1073741824
 one : ∀ x ∈ xs, x.fKids = [] ∧ wAttr x.fAttr ≤ 1073741824 ∧ x.fArgs.length ≤ 1073741824 ∧ x.fCites.length ≤ 1073741824 ∧ (x.fKind = 1 → 0 < x.fText.size)
def KBb : Key := (1300, 6)
def mgS (xs : List DInline) (v n g : Nat) (os : List AV) : St := sx 73 [(0, jL (xs.map aInline)), (3, .vs 3 n), (4, jI ((v : Nat) : Int))] [(3, .vec 42 10 os)] [(KBb, g)]
def mgT (xs : List DInline) (j n g : Nat) (os : List AV) (f : Int) (t : ByteArray) : St := sx 73 [(0, jL (xs.map aInline)), (3, .vs 3 n), (4, jI ((j : Nat) : Int)), (5, jI f), (6, .ptr 6 0)] [(3, .vec 42 10 os), (6, .cells 80 [.son 6, .own KBb g 1 (bytesAV t)])] [(KBb, g)]
theorem catT_le (a b : List DInline) : (catT (a ++ b)).size = (catT a).size + (catT b).size := by
 induction a with
 | nil => simp only [List.nil_append, catT, sz0]; omega
 | cons x a ih => simp only [List.cons_append, catT, ByteArray.size_append, ih]; omega
theorem os_push {n : Nat} {os : List AV} {out : List DInline} (hn : n = os.length) (ho : os = out.map aInline) (y : DInline) : os.take n ++ [cInline y] = (out ++ [y]).map aInline := by
 subst hn; rw [List.take_length, ho]; exact ap1_aInline _ _
theorem mg_to (xs : List DInline) (hX : MgOk xs) : CallNew Tryz.prog 21 [jL (xs.map aInline)] [(3, .vec 42 10 ((mgL xs).map aInline))] (.vs 3 (mgL xs).length) := by
 have hlq := lenM_eq aInline xs
 have hlen := hX.len
 refine BEGn Tryz.func21 (by kernel_rfl) ?_
 refine GO (tn 3 z) (by kernel_rfl) ?_
 refine TELL 3 3 42 10 (by kernel_rfl) ?_
 refine LP (n := xs.length + 1) (fun N M S => ∃ (v n g : Nat) (os : List AV) (out : List DInline), v ≤ xs.length ∧ n = os.length ∧ os = out.map aInline ∧ out.length ≤ v ∧ out ++ mgL (xs.drop v) = mgL xs ∧ xs.length - v < N ∧ M = () ∧ S = mgS xs v n g os) (by kernel_rfl) ⟨0, 0, 0, [], [], by omega, rfl, rfl, by simp, rfl, by omega, rfl, rfl⟩ (WK (by kernel_rfl)) ?_
 rintro n0 M S ⟨v, n, g, os, out, hv, hn, ho, hol, hm, hF0, rfl, rfl⟩
 obtain ⟨n0, rfl⟩ : ∃ k, n0 = k + 1 := ⟨n0 - 1, by omega⟩
 have hos : os.length = out.length := by rw [ho, List.length_map]
 by_cases h1 : v < xs.length
 ·have hd : decide (((v : Nat) : Int) < ((lenM aInline xs : Nat) : Int)) = true := dT (by omega)
  have hev := el_aInline xs v h1
  have hxm : el xs v ∈ xs := el_mem (l := xs) (i := v) h1
  obtain ⟨q1, q2, q3, q4, q5⟩ := hX.one _ hxm
  have hdr : xs.drop v = el xs v :: xs.drop (v + 1) := by
   rw [List.drop_eq_getElem_cons h1]
   simp [el, h1]
  by_cases h2 : (el xs v).fKind = 1
  ·-- a run of texts
   have hk : (((el xs v).fKind : Int) != 1) = false := by rw [h2]; rfl
   refine GO (tn 4 (kb hd (tn 2 (ke hev (tn 3 (kb hk (tn 2 z))))))) (by kernel_rfl) ?_
   refine RT [(6, 0, .son 6), (6, 1, .own KBb g 1 (bytesAV ⟨#[]⟩))] (ac (show (AV.val (.pointer none)) = .val (.pointer none) from rfl) (ac (show (bytesAV ⟨#[]⟩ : List AV) = [] ∧ 0 < 6 ∧ g = g from ⟨rfl, by decide, rfl⟩) an)) (by kernel_rfl) ?_
   refine LP (n := xs.length + 1) (fun N M S => ∃ (j g : Nat) (f : Int) (t : ByteArray), v ≤ j ∧ j ≤ xs.length ∧ (∀ k, v ≤ k → k < j → (el xs k).fKind = 1) ∧ t = catT ((xs.drop v).take (j - v)) ∧ f = (if j = v then -1 else ((v : Nat) : Int)) ∧ xs.length - j < N ∧ M = () ∧ S = mgT xs j n g os f t) (by kernel_rfl) ⟨v, g, -1, ⟨#[]⟩, by omega, by omega, fun k _ _ => by omega, by simp [catT], by simp, by omega, rfl, rfl⟩ (WK (by kernel_rfl)) ?_
   rintro n1 M S ⟨j, g, f, t, hj, hj2, hall, ht, hf, hF1, rfl, rfl⟩
   obtain ⟨n1, rfl⟩ : ∃ k, n1 = k + 1 := ⟨n1 - 1, by omega⟩
   have htz : t.size + (catT (xs.drop j)).size ≤ 1073741824 := by
    have e1 := catT_le ((xs.drop v).take (j - v)) ((xs.drop v).drop (j - v))
    rw [List.take_append_drop, List.drop_drop] at e1
    have e2 := catT_le (xs.take v) (xs.drop v)
    rw [List.take_append_drop] at e2
    have := hX.tot
    rw [ht]
    rw [show v + (j - v) = j by omega] at e1
    omega
   by_cases h3 : j < xs.length ∧ (el xs j).fKind = 1
   ·obtain ⟨h3, h4⟩ := h3
    have hdj : decide (((j : Nat) : Int) < ((lenM aInline xs : Nat) : Int)) = true := dT (by omega)
    have hej := el_aInline xs j h3
    have hc1 : cond (decide (((j : Nat) : Int) < ((lenM aInline xs : Nat) : Int))) (((el xs j).fKind : Int) == 1) false = true := by rw [hdj, h4]; rfl
    obtain ⟨p1, p2, p3, p4, p5⟩ := hX.one _ (el_mem (l := xs) (i := j) h3)
    have hdj2 : xs.drop j = el xs j :: xs.drop (j + 1) := by
     rw [List.drop_eq_getElem_cons h3]
     simp [el, h3]
    have hsz : t.size + (el xs j).fText.size ≤ 3000000000 := by
     rw [hdj2] at htz
     simp only [catT, ByteArray.size_append] at htz
     omega
    have hcw : CallTo Tryz.prog 43 [.ptr 6 0, jS (el xs j).fText] [(6, .cells 80 [.son 6, .own KBb g 1 (bytesAV t)])] [(KBb, g)] (.av (.tup [.val (.int .i64 ((ByteArray.size (el xs j).fText : Nat) : Int)), .val .nilIface])) [(6, .cells 80 [.son 6, .own KBb (g + 1) 1 (bytesAV (t ++ (el xs j).fText))])] [(KBb, g + 1)] := castp (by kernel_rfl) (CallTo_ren (swap_inv (6, 0) (1000, 0) rfl) (WriteString_to t (el xs j).fText g hsz))
    have hwr := wrE (((j : Nat) : Int) + 1) ((j + 1 : Nat) : Int) (by omega)
    have htn : t ++ (el xs j).fText = catT ((xs.drop v).take (j + 1 - v)) := by
     rw [ht, ← catT_snoc]
     congr 1
     rw [show j + 1 - v = (j - v) + 1 by omega, List.take_succ_eq_append_getElem (by rw [List.length_drop]; omega)]
     congr 1
     simp [el, h3, show v + (j - v) = j by omega]
    have hall2 : ∀ k, v ≤ k → k < j + 1 → (el xs k).fKind = 1 := fun k hk1 hk2 => by
     by_cases e : k = j
     ·rw [e]; exact h4
     ·exact hall k hk1 (by omega)
    by_cases h5 : j = v
    ·have hf1 : decide (f < 0) = true := dT (by rw [hf, if_pos h5]; decide)
     have hc2 : cond (decide (f < 0)) (!eqs (el xs j).fText ⟨#[]⟩) false = true := by
      rw [hf1]
      have := p5 h4
      cases hb : eqs (el xs j).fText ⟨#[]⟩ with
      | false => rfl
      | true =>
       have := eqs_sz hb
       omega
     refine GO (tn 5 (kj (decide (((j : Nat) : Int) < ((lenM aInline xs : Nat) : Int))) (tn 2 (he (fun _ => hej) (tn 3 z))) z (kb hc1 (tn 3 (kj (decide (f < 0)) (tn 2 (he (fun _ => hej) (tn 3 z))) z (kb hc2 (tn 4 (ke hej (tn 2 (kg hcw (show g = g ∧ True from ⟨rfl, trivial⟩) (tn 1 (kn hwr (tn 1 z))))))))))))) (by kernel_rfl) ?_
     exact AG (m := n1) ⟨j + 1, g + 1, ((j : Nat) : Int), _, by omega, by omega, hall2, htn, by rw [if_neg (by omega), h5], by omega, rfl, rfl⟩ (WK (by kernel_rfl)) (by kernel_rfl) (Nat.lt_succ_self _)
    ·have hf1 : decide (f < 0) = false := dF (by rw [hf, if_neg h5]; omega)
     have hc2 : cond (decide (f < 0)) (!eqs (el xs j).fText ⟨#[]⟩) false = false := by rw [hf1]; rfl
     refine GO (tn 5 (kj (decide (((j : Nat) : Int) < ((lenM aInline xs : Nat) : Int))) (tn 2 (he (fun _ => hej) (tn 3 z))) z (kb hc1 (tn 3 (kj (decide (f < 0)) (tn 2 (he (fun _ => hej) (tn 3 z))) z (kb hc2 (tn 2 (ke hej (tn 2 (kg hcw (show g = g ∧ True from ⟨rfl, trivial⟩) (tn 1 (kn hwr (tn 1 z))))))))))))) (by kernel_rfl) ?_
     exact AG (m := n1) ⟨j + 1, g + 1, f, _, by omega, by omega, hall2, htn, by rw [hf, if_neg h5, if_neg (by omega)], by omega, rfl, rfl⟩ (WK (by kernel_rfl)) (by kernel_rfl) (Nat.lt_succ_self _)
   ·have hc1 : cond (decide (((j : Nat) : Int) < ((lenM aInline xs : Nat) : Int))) (((el xs j).fKind : Int) == 1) false = false := by
     by_cases h4 : j < xs.length
     ·rw [dT (by omega)]
      exact beq_false_of_ne (fun e => h3 ⟨h4, e⟩)
     ·rw [dF (by omega)]; rfl
    have hjv : j ≠ v := fun e => h3 ⟨by omega, by rw [e]; exact h2⟩
    have hf2 : f = ((v : Nat) : Int) := by rw [hf, if_neg hjv]
    subst hf2
    have hf3 : decide (((v : Nat) : Int) ≥ 0) = true := dT (by omega)
    obtain ⟨y, hy⟩ : ∃ y : DInline, y = { el xs v with fText := t } := ⟨_, rfl⟩
    have htp : 0 < t.size := by
     rw [ht, hdr, show j - v = (j - v - 1) + 1 by omega, List.take_succ_cons]
     simp only [catT, ByteArray.size_append]
     have := q5 h2; omega
    have hcs : CallTo Tryz.prog 38 [.ptr 6 0] [(6, .cells 80 [.son 6, .own KBb g 1 (bytesAV t)])] [(KBb, g)] (.av (.val (.string t))) [(6, .cells 80 [.son 6, .av (.sl (bytesAV t))])] [(KBb, g + 1)] := castp (by kernel_rfl) (CallTo_ren (swap_inv (6, 0) (1000, 0) rfl) (String_to (.son 1000) 1300 g t htp (by omega)))
    have hap : n ≤ os.length ∧ Uni 10 [cInline y] ∧ (n + ([cInline y] : List AV).length) * 192 ≤ 140737488355328 := ⟨by omega, uniI _, by simp; omega⟩
    have hmj : mgL (xs.drop v) = y :: mgL (xs.drop j) := by
     have e1 : xs.drop v = el xs v :: (((xs.drop v).take (j - v)).drop 1 ++ xs.drop j) := by
      have : ((xs.drop v).take (j - v)) = el xs v :: ((xs.drop v).take (j - v)).drop 1 := by
       rw [hdr, show j - v = (j - v - 1) + 1 by omega, List.take_succ_cons]; rfl
      rw [← List.cons_append, ← this]
      conv => lhs; rw [← List.take_append_drop (j - v) (xs.drop v)]
      rw [List.drop_drop, show v + (j - v) = j by omega]
     rw [e1, mg_run _ ?_ _ _ h2 ?_, hy, ht]
     ·congr 1
      rw [hdr, show j - v = (j - v - 1) + 1 by omega, List.take_succ_cons]
      simp [catT]
     ·intro w q hw
      rcases Nat.lt_or_ge j xs.length with h4 | h4
      ·intro e
       refine h3 ⟨h4, ?_⟩
       rw [List.drop_eq_getElem_cons h4] at hw
       have := (List.cons.inj hw).1
       rw [← e, ← this]; simp [el, h4]
      ·rw [List.drop_eq_nil_of_le h4] at hw; cases hw
     ·intro w hw
      have hw2 := List.mem_of_mem_drop hw
      obtain ⟨k, hk, e⟩ := List.getElem_of_mem hw2
      rw [List.length_take, List.length_drop] at hk
      rw [List.getElem_take, List.getElem_drop] at e
      have := hall (v + k) (by omega) (by omega)
      rw [← e]
      simpa [el, show v + k < xs.length by omega] using this
    refine GO (tn 5 (kj (decide (((j : Nat) : Int) < ((lenM aInline xs : Nat) : Int))) (tn 2 (he (fun h => el_aInline xs j (by have := of_decide_eq_true h.2; omega)) (tn 3 z))) z (kb hc1 z))) (by kernel_rfl) ?_
    subst hy
    refine OUT (tn 2 (kb hf3 (tn 2 (ke hev (tn 1 (kc (mgI_to _ q1 q2 q3 q4) (tn 2 (kg hcs (show g = g ∧ True from ⟨rfl, trivial⟩) (tn 4 (kp (uniI { el xs v with fText := t }) (kp hap (tn 1 z)))))))))))) (by kernel_rfl) ?_
    exact AG (m := n0) ⟨j, n + 1, g + 1, os.take n ++ [cInline { el xs v with fText := t }], out ++ [{ el xs v with fText := t }], hj2, by simp; omega, os_push hn ho _, by simp; omega, by rw [List.append_assoc, List.singleton_append, ← hmj]; exact hm, by omega, rfl, rfl⟩ (WK (by kernel_rfl)) (by kernel_rfl) (Nat.lt_succ_self _)
  ·-- no text
   have hk : (((el xs v).fKind : Int) != 1) = true := by rw [bne_iff_ne]; exact h2
   have hap : n ≤ os.length ∧ Uni 10 [cInline (el xs v)] ∧ (n + ([cInline (el xs v)] : List AV).length) * 192 ≤ 140737488355328 := ⟨by omega, uniI _, by simp; omega⟩
   have hwr := wrE (((v : Nat) : Int) + 1) ((v + 1 : Nat) : Int) (by omega)
   refine GO (tn 4 (kb hd (tn 2 (ke hev (tn 3 (kb hk (tn 3 (ke hev (tn 1 (kc (mgI_to _ q1 q2 q3 q4) (kp (uniI (el xs v)) (kp hap (tn 2 (kn hwr (tn 1 z))))))))))))))) (by kernel_rfl) ?_
   exact AG (m := n0) ⟨v + 1, n + 1, g, os.take n ++ [cInline (el xs v)], out ++ [el xs v], by omega, by simp; omega, os_push hn ho _, by simp; omega, by rw [List.append_assoc, List.singleton_append, ← hm, hdr]; congr 1; exact (mgc_n h2).symm, by omega, rfl, rfl⟩ (WK (by kernel_rfl)) (by kernel_rfl) (Nat.lt_succ_self _)
 ·have hd : decide (((v : Nat) : Int) < ((lenM aInline xs : Nat) : Int)) = false := dF (by omega)
  have hm2 : out = mgL xs := by
   rw [List.drop_eq_nil_of_le (by omega)] at hm
   simpa [mgL] using hm
  rw [← hm2]
  rw [hos] at hn
  subst hn ho
  refine GO (tn 4 (kb hd z)) (by kernel_rfl) ?_
  refine OUT (tn 2 z) (by kernel_rfl) ?_
  exact eNs
end Go.Proofs.YthbpjmogdonlkaaGreatDoor
namespace Go.Proofs.YthbpjmogdonlkaaGreatDoor
open Go Go.Eng
theorem rst0_to (s : SV) : CallTo Tryz.prog 95 [jL [], s] [] [] undefS [] [] := by
 have h : CallTo Tryz.prog 95 [jL [], .junk] [] [] undefS [] [] := by
  refine bGs Tryz.func95 ?_
  refine GO (tn 3 z) (by kernel_rfl) ?_
  refine uN (sx 46 [(8, jI 0), (9, jI 0)] [] []) 1 ?_
  refine GO (tn 1 (kb (b := decide ((0 : Int) < (0 : Int))) (d := false) rfl z)) (by kernel_rfl) ?_
  refine uO z ?_
  exact eNs
 refine CallTo_args h (fun G w vs hv => ?_)
 obtain ⟨u, us, h1, h2, u2, us2, h3, _, h5⟩ := hv
 exact ⟨u, us, h1, h2, u2, us2, h3, trivial, h5⟩
theorem run_eq_nilI {t : TypeId} {ms : Array (String × TypeId)} (ht : Tryz.prog.underlying t = some (.interface ms)) (w : World) : (binOp .eql t .nilIface .nilIface).run Tryz.prog w = .ok (.bool true) w := by
 have h : (Op.equal t .nilIface .nilIface).run Tryz.prog w = .ok true w := by
  unfold Op.equal
  unfold Op.maxDepth
  unfold Op.equalIn
  simp [run_underlying' ht]
 simp [binOp, h]
noncomputable def isIf (t : TypeId) : Bool := match Tryz.prog.underlying t with
 | some (.interface _) => true
 | _ => false
theorem WO_nilI {ops : Array Oper} {o : Oper} {rest : List Oper} {Q : St → Prop} {S : St} {t t' : TypeId} {x : Operand} (ho : o.op = .binOp .eql t x (.const .nilIface) t') (hg : o.guard = none) (hti : isIf t = true) (hx : S.ev x = .av (.val .nilIface))
  (h : WO Tryz.prog ops rest Q (S.put o.dst (.av (.val (.bool true))))) : WO Tryz.prog ops (o :: rest) Q S := by
 intro more Q' G w a hr hq
 obtain ⟨ms, ht⟩ : ∃ ms, Tryz.prog.underlying t = some (.interface ms) := by
  unfold isIf at hti
  split at hti
  ·rename_i ms h; exact ⟨ms, h⟩
  ·cases hti
 have hxr := hr.ev x
 rw [hx] at hxr
 have hu : a.eval x = .nilIface := hxr.1
 have he : (execOp a.eval o).run Tryz.prog w = .ok (.value (.bool true)) w := by
  have e1 := run_eq_nilI ht w
  have e2 : (eqGuard .eql t x (.const .nilIface) .nilIface .nilIface).run Tryz.prog w = .ok () w := by
   unfold eqGuard
   simp
  have e3 : a.eval (.const .nilIface) = .nilIface := rfl
  simp only [execOp, ho, hu, e3, Sem.run_bind, e2, e1, Result.andThen_ok]
  rfl
 simp only [List.cons_append, wpList]
 rw [if_pos (wanted_none hg a)]
 refine .inl ?_
 unfold Oper.wp
 rw [he, Oper.upon_value]
 exact h more Q' G w _ (hr.put o.dst ⟨rfl, rfl⟩) hq
def rsI (x : DInline) : Nat := ((Lib.atoi x.fText.data.toList).getD 0).toNat
def rst (els : List DElem) (o : Nat) (x : DInline) : DInline := if x.fKind = -1 then (el els (o + rsI x)).fpiece.fInline else x
def RsOk (m : Nat) (l : List DInline) : Prop := ∀ x ∈ l, (x.fKind = -1 ∧ rsI x < 100 ∧ rsI x < m ∧ x.fText = itoa (rsI x)) ∨ (x.fKind ≠ -1 ∧ x.fKids = [])
def rsB (ls : List DInline) (els : List DElem) : List (Nat × ABox) := [(1003, .vec 42 10 (ls.map aInline)), (1001, .vec 107 21 (els.map aElem))]
def rsS (l : List DInline) (els : List DElem) (o m v : Nat) : St := sx 46 [(0, .vs 1003 l.length), (1, .vw 1001 21 o m), (8, jI ((l.length : Nat) : Int)), (9, jI ((v : Nat) : Int))] (rsB ((l.take v).map (rst els o) ++ l.drop v) els) []
theorem el_ad {l : List DInline} {f : DInline → DInline} {v : Nat} (h : v < l.length) : el ((l.take v).map f ++ l.drop v) v = el l v := by
 have hl : ((l.take v).map f).length = v := by rw [List.length_map, List.length_take]; omega
 unfold el
 rw [List.getElem?_append_right (by omega), hl, List.getElem?_drop]
 simp
theorem set_ad {l : List DInline} {f : DInline → DInline} {v : Nat} (h : v < l.length) : ((l.take v).map f ++ l.drop v).set v (f (el l v)) = (l.take (v + 1)).map f ++ l.drop (v + 1) := by
 have hl : ((l.take v).map f).length = v := by rw [List.length_map, List.length_take]; omega
 rw [List.set_append_right _ _ (by omega), hl, Nat.sub_self, List.drop_eq_getElem_cons h, List.set_cons_zero, List.take_succ_eq_append_getElem h, List.map_append, List.append_assoc]
 simp [el, h]
theorem same_ad {l : List DInline} {f : DInline → DInline} {v : Nat} (h : v < l.length) (hf : f (el l v) = el l v) : (l.take v).map f ++ l.drop v = (l.take (v + 1)).map f ++ l.drop (v + 1) := by
 rw [← set_ad h, hf, ← el_ad (f := f) h]
 have hl : v < ((l.take v).map f ++ l.drop v).length := by rw [List.length_append, List.length_map, List.length_take, List.length_drop]; omega
 rw [show el ((l.take v).map f ++ l.drop v) v = ((l.take v).map f ++ l.drop v)[v] by simp only [el, hl, List.getElem?_eq_getElem, Option.getD_some], List.set_getElem_self]
theorem set_inl (ls : List DInline) (k : Nat) (y : DInline) (hk : k < ls.length) : (ls.map aInline).set k (((ls.map aInline).getD k (.val undef)).upd 0 (cInline y)) = (ls.set k y).map aInline := by
 rw [List.map_set]
 congr 1
 rw [List.getD_eq_getElem?_getD, List.getElem?_map, List.getElem?_eq_getElem hk, Option.map_some, Option.getD_some, aInline_eq ls[k], aInline_eq y]
 rfl
theorem st_inl (ls : List DInline) (f : Int) (y : DInline) (hf : 0 ≤ f ∧ f < ls.length) : 0 ≤ f ∧ f < (((ls.map aInline).length : Nat) : Int) ∧ 0 + 10 ≤ ((ls.map aInline).getD f.toNat (.val undef)).cells.length ∧ ((ls.map aInline).getD f.toNat (.val undef)).isTup = false ∧ (cInline y).isTup = false ∧ (cInline y).cells.length = 10 ∧ 0 < 10 := by
 have hk : f.toNat < ls.length := by omega
 have e : (ls.map aInline).getD f.toNat (.val undef) = aInline ls[f.toNat] := by
  rw [List.getD_eq_getElem?_getD, List.getElem?_map, List.getElem?_eq_getElem hk]; rfl
 rw [e, aInline_eq]
 exact ⟨hf.1, by simpa using hf.2, Nat.le_refl _, rfl, rfl, rfl, by decide⟩
def rs6 (l : List DInline) (els : List DElem) (o m v k : Nat) (b : List (Nat × SV)) : St := sx 46 ([(0, .vs 1003 l.length), (1, .vw 1001 21 o m), (4, jI ((v : Nat) : Int)), (5, jI ((k : Nat) : Int)), (8, jI ((l.length : Nat) : Int)), (9, jI ((v : Nat) : Int))] ++ b) (rsB ((l.take v).map (rst els o) ++ l.drop v) els) []
theorem rs6_w (l : List DInline) (els : List DElem) (o m v k : Nat) : W Tryz.prog (.region 6 (regOps 6 Tryz.f95) false) (fun e S1 => e = .normal ∧ Weak S1 (rs6 l els o m v k [(35, jB true)])) (rs6 l els o m v k [(6, .av (.val .nilIface))]) := by
 refine W_regionO ?_
 rw [show (regOps 6 Tryz.f95).toList = [regO 6 Tryz.f95 0, regO 6 Tryz.f95 1] by kernel_rfl]
 refine WO_pure (.av (.val .nilIface)) 34 (by kernel_rfl) (by kernel_rfl) ?_
 refine WO_nilI (t := 91) (t' := 91) (x := .tmp 34) (by kernel_rfl) (by kernel_rfl) (by kernel_rfl) (by kernel_rfl) ?_
 exact WO_nil rfl ⟨rfl, WK (by kernel_rfl)⟩
theorem rst_to (l : List DInline) (els : List DElem) (o m : Nat) (hl : l.length ≤ 1073741824) (hm : o + m ≤ els.length) (he : els.length ≤ 1073741824) (hk : RsOk m l) :
  CallTo Tryz.prog 95 [.vs 1003 l.length, .vw 1001 21 o m] (rsB l els) [] undefS (kept (rsB (l.map (rst els o)) els)) [] := by
 refine BEGv (fun _ : Unit => undefS) (fun _ => rsB (l.map (rst els o)) els) (fun _ => []) () Tryz.func95 (by kernel_rfl) ?_
 refine GO (tn 3 z) (by kernel_rfl) ?_
 refine LP (n := l.length + 1) (fun N M S => ∃ (v : Nat), v ≤ l.length ∧ l.length - v < N ∧ M = () ∧ S = rsS l els o m v) (by kernel_rfl) ⟨0, by omega, by omega, rfl, rfl⟩ (WK (by kernel_rfl)) ?_
 rintro n0 M S ⟨v, hv, hF0, rfl, rfl⟩
 obtain ⟨n0, rfl⟩ : ∃ k, n0 = k + 1 := ⟨n0 - 1, by omega⟩
 have hll : ((l.take v).map (rst els o) ++ l.drop v).length = l.length := by rw [List.length_append, List.length_map, List.length_take, List.length_drop]; omega
 by_cases h1 : v < l.length
 ·have hd : decide (((v : Nat) : Int) < ((l.length : Nat) : Int)) = true := dT (by omega)
  have hi : 0 ≤ ((v : Nat) : Int) ∧ ((v : Nat) : Int) < ((l.length : Nat) : Int) := ⟨by omega, by omega⟩
  have hei := elI_aInline ((l.take v).map (rst els o) ++ l.drop v) ((v : Nat) : Int) (by omega) (by omega)
  rw [show ((v : Nat) : Int).toNat = v from rfl, el_ad h1] at hei
  have hwr := wrE (((v : Nat) : Int) + 1) ((v + 1 : Nat) : Int) (by omega)
  rcases hk _ (el_mem (l := l) (i := v) h1) with ⟨q1, q2, q3, q4⟩ | ⟨q1, q2⟩
  ·have hq : ((el l v).fKind != -1) = false := by rw [q1]; rfl
   have hat := atoi_to (rsI (el l v)) q2
   rw [← q4] at hat
   have hk1 : 0 ≤ ((rsI (el l v) : Nat) : Int) ∧ ((rsI (el l v) : Nat) : Int) < ((m : Nat) : Int) := ⟨by omega, by omega⟩
   have hee := elI_aElem els ((o + rsI (el l v) : Nat) : Int) (by omega) (by omega)
   refine GO (tn 1 (kb hd (tn 4 (kp hi (tn 1 (ke hei (tn 1 (kb hq (tn 2 (kp hi (tn 1 (ke hei (kc hat (tn 5 (kq 6 z))))))))))))))) (by kernel_rfl) ?_
   have hst := st_inl ((l.take v).map (rst els o) ++ l.drop v) ((v : Nat) : Int) (el els (o + rsI (el l v))).fpiece.fInline ⟨by omega, by omega⟩
   refine NXW (rs6 l els o m v (rsI (el l v)) [(35, jB true)]) (kb (b := true) (d := true) rfl (tn 4 (kp hk1 (tn 2 (ke hee (kp hi (kp hst (kq 8 z)))))))) (by kernel_rfl) ?_ (by kernel_rfl) ?_
   ·refine W_weak (S' := rs6 l els o m v (rsI (el l v)) [(6, .av (.val .nilIface))]) (WK (by kernel_rfl)) ?_
    exact W_code (c' := .region 6 (regOps 6 Tryz.f95) false) (by kernel_rfl) (rs6_w l els o m v (rsI (el l v)))
   refine BOX (e := 42) (sz := 10) 1003 (by kernel_rfl) (set_inl ((l.take v).map (rst els o) ++ l.drop v) v (el els (o + rsI (el l v))).fpiece.fInline (by omega)) ?_
   refine GO (kn hwr (tn 1 z)) (by kernel_rfl) ?_
   refine AG (m := n0) (S'' := rsS l els o m (v + 1)) ⟨v + 1, by omega, by omega, rfl, rfl⟩ ?_ (by kernel_rfl) (Nat.lt_succ_self _)
   unfold rsS
   rw [← set_ad (f := rst els o) h1, show rst els o (el l v) = (el els (o + rsI (el l v))).fpiece.fInline from if_pos q1]
   exact WK (by kernel_rfl)
  ·have hq : ((el l v).fKind != -1) = true := by rw [bne_iff_ne]; exact q1
   have hr0 := rst0_to (.vw 1001 21 o m)
   rw [show ([] : List AV) = (el l v).fKids.map aInline by rw [q2]; rfl] at hr0
   refine GO (tn 1 (kb hd (tn 4 (kp hi (tn 1 (ke hei (tn 1 (kb hq (tn 2 (kp hi (tn 1 (ke hei (tn 1 (kc hr0 (kn hwr (tn 1 z)))))))))))))))) (by kernel_rfl) ?_
   refine AG (m := n0) (S'' := rsS l els o m (v + 1)) ⟨v + 1, by omega, by omega, rfl, rfl⟩ ?_ (by kernel_rfl) (Nat.lt_succ_self _)
   unfold rsS
   rw [← same_ad (f := rst els o) h1 (if_neg q1)]
   exact WK (by kernel_rfl)
 ·have hd : decide (((v : Nat) : Int) < ((l.length : Nat) : Int)) = false := dF (by omega)
  have hvl : v = l.length := by omega
  subst hvl
  refine GO (tn 1 (kb hd z)) (by kernel_rfl) ?_
  refine OUT z (by kernel_rfl) ?_
  rw [show l.map (rst els o) = (l.take l.length).map (rst els o) ++ l.drop l.length by simp]
  exact ENk (by kernel_rfl) (by kernel_rfl) (by kernel_rfl)
end Go.Proofs.YthbpjmogdonlkaaGreatDoor
namespace Go.Proofs.YthbpjmogdonlkaaGreatDoor
open Go Go.Eng
theorem bwL_to (ps : List DPiece) (hn : ps.length ≤ 536870912) : CallTo Tryz.prog 148 [.ptr 14 0, jI 0, jI 0] (stE ps (mtL ps)) [] (jL ((keeps ps).map aInline)) (stE ps (mtL ps)) [] := by
 have hR := ring_mtL ps
 have hl := hR.len
 have hk : (keeps ps).length ≤ ps.length := by
  unfold keeps
  exact Nat.le_trans (List.length_filter_le _ _) (by simp)
 exact castp (by kernel_rfl) (CallTo_ren (swap_inv (14, 0) (1000, 0) rfl) (CallTo_ren (swap_inv (12, 0) (2001, 0) rfl) (bw_to ps (mtL ps) (keeps ps) hR (by omega))))
def neS (ps : List DPiece) : St := sx 9 [(3, .ptr 14 0)] (stE ps (mtL ps)) []
theorem ne1 (ps : List DPiece) (hn : ps.length ≤ 536870912) (hk : ∀ p ∈ ps, p.fKind = 0) : W Tryz.prog (.region 1 (regOps 1 Tryz.f94) false) (fun e S1 => e = .normal ∧ Weak S1 (neS ps)) (sx 9 [(0, jL (ps.map aPiece))] [] []) := by
 refine W_regionO ?_
 rw [show (regOps 1 Tryz.f94).toList = [regO 1 Tryz.f94 0, regO 1 Tryz.f94 1, regO 1 Tryz.f94 2] by kernel_rfl]
 refine WO_pure (jL (ps.map aPiece)) 4 (by kernel_rfl) (by kernel_rfl) ?_
 refine WO_new (nb := stE ps (mtL ps)) (res := .ptr 14 0) (f := 147) (x := .func 147) (args := #[.tmp 4]) (tys := #[62]) (fs := []) (cs := []) 5 (by kernel_rfl) (by kernel_rfl) rfl (castp (by kernel_rfl) (mtc_to ps hn hk)) (by kernel_rfl) (by kernel_rfl) ?_
 refine WO_pure (.ptr 14 0) 3 (by kernel_rfl) (by kernel_rfl) ?_
 exact WO_nil rfl ⟨rfl, WK (by kernel_rfl)⟩
def neB (xs : List DInline) : List (Nat × ABox) := [(3, .vec 42 10 ((mgL xs).map aInline))]
theorem ne2 (ps : List DPiece) (hn : ps.length ≤ 536870912) (hX : MgOk (keeps ps)) : W Tryz.prog (.region 2 (regOps 2 Tryz.f94) false) (fun e S1 => e = .normal ∧ Weak S1 (sx 9 [(2, .vs 3 (mgL (keeps ps)).length)] (neB (keeps ps)) [])) (neS ps) := by
 have hc := bwL_to ps hn
 refine W_regionO ?_
 rw [show (regOps 2 Tryz.f94).toList = [regO 2 Tryz.f94 0, regO 2 Tryz.f94 1, regO 2 Tryz.f94 2, regO 2 Tryz.f94 3] by kernel_rfl]
 refine WO_split (S' := sx 9 [(7, jL ((keeps ps).map aInline))] (stE ps (mtL ps)) []) 2 ?_ ?_
 ·exact WO_runX (cs := [True, _, True]) [cO hc] 9 [(7, jL ((keeps ps).map aInline))] (stE ps (mtL ps)) [] ⟨trivial, hc, trivial, trivial⟩ (by kernel_rfl) (WK (by kernel_rfl))
 refine WO_new (nb := neB (keeps ps)) (res := .vs 3 (mgL (keeps ps)).length) (f := 21) (x := .func 21) (args := #[.tmp 7]) (tys := #[24]) (fs := []) (cs := []) 8 (by kernel_rfl) (by kernel_rfl) rfl (castp (by kernel_rfl) (mg_to (keeps ps) hX)) (by kernel_rfl) (by kernel_rfl) ?_
 refine WO_pure (.vs 3 (mgL (keeps ps)).length) 2 (by kernel_rfl) (by kernel_rfl) ?_
 exact WO_nil rfl ⟨rfl, WK (by kernel_rfl)⟩
theorem nst_to (ps : List DPiece) (hn : ps.length ≤ 536870912) (hk : ∀ p ∈ ps, p.fKind = 0) (hX : MgOk (keeps ps)) : CallNew Tryz.prog 94 [jL (ps.map aPiece)] (neB (keeps ps)) (.vs 3 (mgL (keeps ps)).length) := by
 refine BEGn Tryz.func94 (by kernel_rfl) ?_
 refine GO (tn 1 (kq 1 z)) (by kernel_rfl) ?_
 refine NXW (neS ps) (kq 2 z) (by kernel_rfl) ?_ (by kernel_rfl) ?_
 ·refine W_weak (S' := sx 9 [(0, jL (ps.map aPiece))] [] []) (WK (by kernel_rfl)) ?_
  exact W_code (c' := .region 1 (regOps 1 Tryz.f94) false) (by kernel_rfl) (ne1 ps hn hk)
 refine NXW (sx 9 [(2, .vs 3 (mgL (keeps ps)).length)] (neB (keeps ps)) []) z (by kernel_rfl) ?_ (by kernel_rfl) ?_
 ·refine W_weak (S' := neS ps) (WK (by kernel_rfl)) ?_
  exact W_code (c' := .region 2 (regOps 2 Tryz.f94) false) (by kernel_rfl) (ne2 ps hn hX)
 exact eNs
end Go.Proofs.YthbpjmogdonlkaaGreatDoor
namespace Go.Proofs.YthbpjmogdonlkaaGreatDoor
open Go Go.Eng
def phI (k : Nat) : DInline := DInline.mk (-1) (itoa k) ⟨#[]⟩ ⟨#[]⟩ ⟨⟨#[]⟩, [], []⟩ [] [] []
def pcE (k : Nat) (e : DElem) : DPiece := if e.fpiece.fInline.fKids.length = 0 then e.fpiece else { e.fpiece with fInline := phI k }
def pcsN (els : List DElem) (o n : Nat) : List DPiece := (List.range n).map (fun v => pcE v (el els (o + v)))
theorem pcsN_succ (els : List DElem) (o n : Nat) : pcsN els o (n + 1) = pcsN els o n ++ [pcE n (el els (o + n))] := by simp [pcsN, List.range_succ]
theorem pcsN_len (els : List DElem) (o n : Nat) : (pcsN els o n).length = n := by simp [pcsN]
theorem uniP (x : DPiece) : Uni 18 [cPiece x] := by
 intro y hy
 simp only [List.mem_cons, List.not_mem_nil, or_false] at hy
 subst hy; exact ⟨rfl, rfl⟩
def pcZ : Value := .agg #[.int .i64 0, .int .i64 0, .string ⟨#[]⟩, .string ⟨#[]⟩, .string ⟨#[]⟩, .string ⟨#[]⟩, .slice none 0 0, .slice none 0 0, .slice none 0 0, .slice none 0 0, .slice none 0 0, .string ⟨#[]⟩, .int .i64 0, .bool false, .bool false, .bool false, .int .i64 0, .int .i64 0]
theorem pc_box (n : Nat) (id : Nat) (G : Gh) (w : World) (blk : Nat) (hb : blk < w.heap.size) (ho : G.ow (id, 0) = some blk) (hw : w.heap[blk]? = some (.cells (madeCells pcZ.cells (n * 18)) 68 (0, 0))) (hU : G.U blk = 0) (hc : G.cp blk = n) : RepB G w id (.vec 68 18 []) := by
 refine .inr ⟨blk, _, [], hb, ho, hw, hU, ?_, rfl, by simp, ⟨_, rfl⟩, by simp [vcells]⟩
 rw [hc, size_madeCells]; exact Nat.le_refl _
def nsB (els : List DElem) : List (Nat × ABox) := [(1001, .vec 107 21 (els.map aElem))]
def nsS (els : List DElem) (o m v : Nat) (os : List AV) : St := sx 45 [(0, .vw 1001 21 o m), (3, .vs 10 v), (11, .vw 1001 21 o m), (12, jI ((m : Nat) : Int)), (13, jI ((v : Nat) : Int))] ((10, .vec 68 18 os) :: nsB els) []
theorem ns1 (els : List DElem) (o m : Nat) (hm : m ≤ 536870912) : W Tryz.prog (.region 1 (regOps 1 Tryz.f57) false) (fun e S1 => e = .normal ∧ Weak S1 (sx 45 [(0, .vw 1001 21 o m), (3, .vs 10 0)] ((10, .vec 68 18 []) :: nsB els) [])) (sx 45 [(0, .vw 1001 21 o m)] (nsB els) []) := by
 refine W_regionO ?_
 rw [show (regOps 1 Tryz.f57).toList = [regO 1 Tryz.f57 0, regO 1 Tryz.f57 1, regO 1 Tryz.f57 2, regO 1 Tryz.f57 3] by kernel_rfl]
 refine WO_pure (.vw 1001 21 o m) 8 (by kernel_rfl) (by kernel_rfl) ?_
 refine WO_pure (jI ((m : Nat) : Int)) 9 (by kernel_rfl) (by kernel_rfl) ?_
 refine WO_own (.vs 10 0) 10 (by kernel_rfl) (sound_makeCap (x := .const (.int .i64 0)) (y := .tmp 9) (t := 62) (e := 68) (sz := 18) (bt := 248) (z := pcZ) (m := 0) (n := m) (id := 10) (k := .i64) (k' := .i64) (X := .vec 68 18 []) (by kernel_rfl) (by kernel_rfl) (by kernel_rfl) (by omega) (by kernel_rfl) (by kernel_rfl) (by omega) (by omega) (by decide) (by kernel_rfl) (fun G w blk h1 h2 h3 h4 h5 => pc_box m 10 G w blk h1 h2 h3 h4 h5)) ?_
 refine WO_pure (.vs 10 0) 3 (by kernel_rfl) (by kernel_rfl) ?_
 exact WO_nil rfl ⟨rfl, WK (by kernel_rfl)⟩
def nsT (els : List DElem) (o m : Nat) (xs : List DInline) : St := sx 45 [(0, .vw 1001 21 o m), (7, .vs 3 xs.length)] ((3, .vec 42 10 (xs.map aInline)) :: nsB els) []
theorem ns10 (els : List DElem) (o m : Nat) (ps : List DPiece) (hn : ps.length ≤ 536870912) (hk : ∀ p ∈ ps, p.fKind = 0) (hX : MgOk (keeps ps)) : W Tryz.prog (.region 10 (regOps 10 Tryz.f57) false) (fun e S1 => e = .normal ∧ Weak S1 (nsT els o m (mgL (keeps ps)))) (sx 45 [(0, .vw 1001 21 o m), (3, jL (ps.map aPiece))] (nsB els) []) := by
 refine W_regionO ?_
 rw [show (regOps 10 Tryz.f57).toList = [regO 10 Tryz.f57 0, regO 10 Tryz.f57 1, regO 10 Tryz.f57 2] by kernel_rfl]
 refine WO_pure (jL (ps.map aPiece)) 39 (by kernel_rfl) (by kernel_rfl) ?_
 refine WO_new (nb := neB (keeps ps)) (res := .vs 3 (mgL (keeps ps)).length) (f := 94) (x := .func 94) (args := #[.tmp 39]) (tys := #[62]) (fs := []) (cs := []) 40 (by kernel_rfl) (by kernel_rfl) rfl (castp (by kernel_rfl) (nst_to ps hn hk hX)) (by kernel_rfl) (by kernel_rfl) ?_
 refine WO_pure (.vs 3 (mgL (keeps ps)).length) 7 (by kernel_rfl) (by kernel_rfl) ?_
 exact WO_nil rfl ⟨rfl, WK (by kernel_rfl)⟩
structure NsOk (els : List DElem) (o m : Nat) : Prop where
 one : ∀ v, v < m → (el els (o + v)).fkind = 0 ∧ (el els (o + v)).fpiece.fKind = 0 ∧ ((el els (o + v)).fpiece.fInline.fKids.length ≠ 0 → v < 100)
 mg : MgOk (keeps (pcsN els o m))
 rs : RsOk m (mgL (keeps (pcsN els o m)))
def nstM (els : List DElem) (o m : Nat) : List DInline := (mgL (keeps (pcsN els o m))).map (rst els o)
theorem mgL_len (xs : List DInline) : (mgL xs).length ≤ xs.length := by
 induction xs with
 | nil => exact Nat.le_refl _
 | cons x l ih =>
  show (mgc x (mgL l)).length ≤ _
  unfold mgc
  cases h : mgL l with
  | nil => simp
  | cons y q =>
   rw [h] at ih
   simp only
   split <;> (simp only [List.length_cons] at ih ⊢; omega)
theorem nes_to (els : List DElem) (o m : Nat) (hm : o + m ≤ els.length) (he : els.length ≤ 536870912) (hN : NsOk els o m) :
  CallTo Tryz.prog 57 [.vw 1001 21 o m] (nsB els) [] (jL ((nstM els o m).map aInline)) (kept (nsB els)) [] := by
 have hkk : (keeps (pcsN els o m)).length ≤ m := by
  unfold keeps
  refine Nat.le_trans (List.length_filter_le _ _) ?_
  rw [List.length_map, pcsN_len]; exact Nat.le_refl _
 have hml := mgL_len (keeps (pcsN els o m))
 have hpk : ∀ p ∈ pcsN els o m, p.fKind = 0 := by
  intro p hp
  simp only [pcsN, List.mem_map, List.mem_range] at hp
  obtain ⟨v, hv, rfl⟩ := hp
  have := (hN.one v hv).2.1
  unfold pcE
  split <;> exact this
 refine BEGv (fun _ : Unit => jL ((nstM els o m).map aInline)) (fun _ => nsB els) (fun _ => []) () Tryz.func57 (by kernel_rfl) ?_
 refine GO (tn 1 (kq 1 z)) (by kernel_rfl) ?_
 refine NXW (sx 45 [(0, .vw 1001 21 o m), (3, .vs 10 0)] ((10, .vec 68 18 []) :: nsB els) []) (tn 3 z) (by kernel_rfl) ?_ (by kernel_rfl) ?_
 ·refine W_weak (S' := sx 45 [(0, .vw 1001 21 o m)] (nsB els) []) (WK (by kernel_rfl)) ?_
  exact W_code (c' := .region 1 (regOps 1 Tryz.f57) false) (by kernel_rfl) (ns1 els o m (by omega))
 refine LP (n := m + 1) (fun N M S => ∃ (v : Nat) (os : List AV), v ≤ m ∧ os = (pcsN els o v).map aPiece ∧ m - v < N ∧ M = () ∧ S = nsS els o m v os) (by kernel_rfl) ⟨0, [], by omega, rfl, by omega, rfl, rfl⟩ (WK (by kernel_rfl)) ?_
 rintro n0 M S ⟨v, os, hv, hos, hF0, rfl, rfl⟩
 obtain ⟨n0, rfl⟩ : ∃ k, n0 = k + 1 := ⟨n0 - 1, by omega⟩
 have hol : os.length = v := by rw [hos, List.length_map, pcsN_len]
 by_cases h1 : v < m
 ·have hd : decide (((v : Nat) : Int) < ((m : Nat) : Int)) = true := dT (by omega)
  have hi : 0 ≤ ((v : Nat) : Int) ∧ ((v : Nat) : Int) < ((m : Nat) : Int) := ⟨by omega, by omega⟩
  have hee := elI_aElem els ((o + v : Nat) : Int) (by omega) (by omega)
  have hwr := wrE (((v : Nat) : Int) + 1) ((v + 1 : Nat) : Int) (by omega)
  obtain ⟨q1, q2, q3⟩ := hN.one v h1
  by_cases h2 : (el els (o + v)).fpiece.fInline.fKids.length = 0
  ·have hb : cond (((el els (o + v)).fkind : Int) == 0) (decide ((((el els (o + v)).fpiece.fInline.fKids.map aInline).length : Int) > 0)) false = false := by
    rw [q1, List.length_map, h2]; rfl
   have hp : pcE v (el els (o + v)) = (el els (o + v)).fpiece := if_pos h2
   have hap : v ≤ os.length ∧ Uni 18 [cPiece (el els (o + v)).fpiece] ∧ (v + ([cPiece (el els (o + v)).fpiece] : List AV).length) * 248 ≤ 140737488355328 := ⟨by omega, uniP _, by simp; omega⟩
   refine GO (tn 1 (kb hd (tn 1 (kp hi (ke hee (tn 7 (tn 4 (kj (((el els (o + v)).fkind : Int) == 0) (tn 5 z) z (kb hb (tn 2 (kp (uniP (el els (o + v)).fpiece) (kp hap (tn 1 (kn hwr (tn 1 z))))))))))))))) (by kernel_rfl) ?_
   refine AG (m := n0) (S'' := nsS els o m (v + 1) (os.take v ++ [cPiece (el els (o + v)).fpiece])) ⟨v + 1, _, by omega, ?_, by omega, rfl, rfl⟩ (WK (by kernel_rfl)) (by kernel_rfl) (Nat.lt_succ_self _)
   rw [pcsN_succ, hp, List.map_append, ← hos, List.take_of_length_le (by omega)]
   rw [List.map_singleton, aPiece_eq]; rfl
  ·have hb : cond (((el els (o + v)).fkind : Int) == 0) (decide ((((el els (o + v)).fpiece.fInline.fKids.map aInline).length : Int) > 0)) false = true := by
    rw [q1, List.length_map]
    show decide _ = true
    exact dT (by omega)
   have hp : pcE v (el els (o + v)) = { (el els (o + v)).fpiece with fInline := phI v } := if_neg h2
   have hit := itoa_to v (q3 h2)
   have hap : v ≤ os.length ∧ Uni 18 [cPiece { (el els (o + v)).fpiece with fInline := phI v }] ∧ (v + ([cPiece { (el els (o + v)).fpiece with fInline := phI v }] : List AV).length) * 248 ≤ 140737488355328 := ⟨by omega, uniP _, by simp; omega⟩
   refine GO (tn 1 (kb hd (tn 1 (kp hi (ke hee (tn 7 (tn 4 (kj (((el els (o + v)).fkind : Int) == 0) (tn 5 z) z (kb hb (tn 1 (kc hit (tn 3 (tn 2 (kp (uniP { (el els (o + v)).fpiece with fInline := phI v }) (kp hap (tn 1 (kn hwr (tn 1 z)))))))))))))))))) (by kernel_rfl) ?_
   refine AG (m := n0) (S'' := nsS els o m (v + 1) (os.take v ++ [cPiece { (el els (o + v)).fpiece with fInline := phI v }])) ⟨v + 1, _, by omega, ?_, by omega, rfl, rfl⟩ (WK (by kernel_rfl)) (by kernel_rfl) (Nat.lt_succ_self _)
   rw [pcsN_succ, hp, List.map_append, ← hos, List.take_of_length_le (by omega)]
   rw [List.map_singleton, aPiece_eq]; rfl
 ·have hd : decide (((v : Nat) : Int) < ((m : Nat) : Int)) = false := dF (by omega)
  have hvm : v = m := by omega
  subst hvm
  refine GO (tn 1 (kb hd z)) (by kernel_rfl) ?_
  refine OUT (kq 10 z) (by kernel_rfl) ?_
  refine FRZ 3 10 (n := v) (l := os) (l' := (pcsN els o v).map aPiece) (by kernel_rfl) (by omega) (by rw [← hos, List.take_of_length_le (by omega)]) ?_
  have hrs := rst_to (mgL (keeps (pcsN els o v))) els o v (by omega) hm (by omega) hN.rs
  have hrs2 : CallTo Tryz.prog 95 [.vs 3 (mgL (keeps (pcsN els o v))).length, .vw 1001 21 o v] [(3, .vec 42 10 ((mgL (keeps (pcsN els o v))).map aInline)), (1001, .vec 107 21 (els.map aElem))] [] undefS [(3, .vck 42 10 ((nstM els o v).map aInline)), (1001, .vck 107 21 (els.map aElem))] [] := castp (by kernel_rfl) (CallTo_ren (swap_inv (3, 0) (1003, 0) rfl) hrs)
  refine NXW (nsT els o v (mgL (keeps (pcsN els o v)))) (tn 2 (kg hrs2 trivial (kq 12 z))) (by kernel_rfl) ?_ (by kernel_rfl) ?_
  ·refine W_weak (S' := sx 45 [(0, .vw 1001 21 o v), (3, jL ((pcsN els o v).map aPiece))] (nsB els) []) (WK (by kernel_rfl)) ?_
   exact W_code (c' := .region 10 (regOps 10 Tryz.f57) false) (by kernel_rfl) (ns10 els o v (pcsN els o v) (by rw [pcsN_len]; omega) hpk hN.mg)
  refine FRZ 7 3 (n := (mgL (keeps (pcsN els o v))).length) (l := (nstM els o v).map aInline) (l' := (nstM els o v).map aInline) (by kernel_rfl) (by simp [nstM]) (by rw [List.take_of_length_le (by simp [nstM])]) ?_
  refine GO (tn 2 z) (by kernel_rfl) ?_
  exact ENk (by kernel_rfl) (by kernel_rfl) (by kernel_rfl)
end Go.Proofs.YthbpjmogdonlkaaGreatDoor
namespace Go.Eng
open Go.Lib
section
variable {P : Program}
end
end Go.Eng
namespace Go.Proofs.YthbpjmogdonlkaaGreatDoor
open Go Go.Eng
def KBx : Key := (1300, 6)
def e0 : ByteArray := ⟨#[]⟩
def BYi (s : ByteArray) (i : Int) : Int := ((byt s (Int.toNat i) : Nat) : Int)
end Go.Proofs.YthbpjmogdonlkaaGreatDoor
namespace Go.Proofs.YthbpjmogdonlkaaGreatDoor
open Go Go.Eng
def nbN : Nat → List DInline → Prop
 | 0, l => l = []
 | n + 1, l => l.length ≤ 1048576 ∧ ∀ x ∈ l, x.fKind ≠ 2 ∧ x.fKind ≠ 3 ∧ nbN n x.fKids
theorem nbN.len {n : Nat} {l : List DInline} (h : nbN n l) : l.length ≤ 1048576 := by
 cases n with
 | zero => rw [show l = [] from h]; simp
 | succ n => exact h.1
def dptN : Nat → List DInline → Nat
 | 0, _ => 0
 | n + 1, l => l.foldl (fun m x => max m (1 + dptN n x.fKids)) 0
theorem foldl_max_le {f : DInline → Nat} {b : Nat} : ∀ (l : List DInline) (a : Nat), a ≤ b → (∀ x ∈ l, f x ≤ b) → l.foldl (fun m x => max m (f x)) a ≤ b
 | [], a, h, _ => h
 | x :: l, a, h, hx => foldl_max_le l _ (Nat.max_le.2 ⟨h, hx x (by simp)⟩) (fun y hy => hx y (by simp [hy]))
theorem dptN_le : ∀ (n : Nat) (l : List DInline), dptN n l ≤ n
 | 0, _ => Nat.le_refl _
 | n + 1, l => foldl_max_le l 0 (by omega) (fun x _ => by have := dptN_le n x.fKids; omega)
theorem tk_el {l : List DInline} {v : Nat} (h : v < l.length) : l.take (v + 1) = l.take v ++ [el l v] := by
 rw [List.take_succ_eq_append_getElem h]
 simp [el, h]
theorem depth_to : ∀ (n : Nat) (l : List DInline), n ≤ 1000 → nbN n l → CallTo Tryz.prog 25 [jL (l.map aInline)] [] [] (jI ((dptN n l : Nat) : Int)) [] [] := by
 intro n
 induction n with
 | zero =>
  intro l _ h
  rw [show l = [] from h]
  refine bG Tryz.func25 ?_
  refine GO (tn 5 z) (by kernel_rfl) ?_
  refine uN (sx 21 [(3, jI 0), (6, jI 0), (7, jI 0)] [] []) 1 ?_
  refine GO (tn 1 (kb (b := decide ((0 : Int) < (0 : Int))) (d := false) rfl z)) (by kernel_rfl) ?_
  refine uO (tn 2 z) ?_
  exact eN
 | succ n ih =>
  intro l hn h
  have hlq := lenM_eq aInline l
  have hl := h.1
  refine bG Tryz.func25 ?_
  refine GO (tn 5 z) (by kernel_rfl) ?_
  refine LP (n := l.length + 1) (fun N M S => ∃ (v m : Nat), v ≤ l.length ∧ m = (l.take v).foldl (fun m x => max m (1 + dptN n x.fKids)) 0 ∧ m ≤ n + 1 ∧ l.length - v < N ∧ M = () ∧ S = sx 21 [(0, jL (l.map aInline)), (3, jI ((m : Nat) : Int)), (6, jI ((lenM aInline l : Nat) : Int)), (7, jI ((v : Nat) : Int))] [] []) (by kernel_rfl) ⟨0, 0, by omega, rfl, by omega, by omega, rfl, rfl⟩ (WK (by kernel_rfl)) ?_
  rintro n0 M S ⟨v, m, hv, hm, hmn, hF0, rfl, rfl⟩
  obtain ⟨n0, rfl⟩ : ∃ k, n0 = k + 1 := ⟨n0 - 1, by omega⟩
  by_cases h1 : v < l.length
  ·have hd : decide (((v : Nat) : Int) < ((lenM aInline l : Nat) : Int)) = true := dT (by omega)
   have hc := ih (el l v).fKids (by omega) (h.2 _ (el_mem (l := l) (i := v) h1)).2.2
   have hb := dptN_le n (el l v).fKids
   have w1 := wrE (1 + ((dptN n (el l v).fKids : Nat) : Int)) ((1 + dptN n (el l v).fKids : Nat) : Int) (by omega)
   have w2 := wrE (((v : Nat) : Int) + 1) ((v + 1 : Nat) : Int) (by omega)
   refine GO (tn 1 (kb hd (tn 5 (ke (el_aInline l v h1) (tn 2 (kc hc (kn w1 (tn 2 (kn w2 (tn 1 z)))))))))) (by kernel_rfl) ?_
   refine AG (m := n0) (S'' := sx 21 [(0, jL (l.map aInline)), (3, jI ((max m (1 + dptN n (el l v).fKids) : Nat) : Int)), (6, jI ((lenM aInline l : Nat) : Int)), (7, jI ((v + 1 : Nat) : Int))] [] []) ⟨v + 1, max m (1 + dptN n (el l v).fKids), by omega, by rw [tk_el h1, List.foldl_append, ← hm]; rfl, by omega, by omega, rfl, rfl⟩ ?_ (by kernel_rfl) (Nat.lt_succ_self _)
   rw [show ((max m (1 + dptN n (el l v).fKids) : Nat) : Int) = max ((m : Nat) : Int) ((1 + dptN n (el l v).fKids : Nat) : Int) by omega]
   exact WK (by kernel_rfl)
  ·have hd : decide (((v : Nat) : Int) < ((lenM aInline l : Nat) : Int)) = false := dF (by omega)
   have hvl : v = l.length := by omega
   subst hvl
   rw [List.take_length] at hm
   have hm2 : m = dptN (n + 1) l := hm
   rw [← hm2]
   refine GO (tn 1 (kb hd z)) (by kernel_rfl) ?_
   refine OUT (tn 2 z) (by kernel_rfl) ?_
   exact eN
def szN : Nat → List DInline → Nat
 | 0, _ => 0
 | n + 1, l => l.foldl (fun m x => m + szN n x.fKids) l.length
theorem foldl_add_ge {f : DInline → Nat} : ∀ (l : List DInline) (a : Nat), a ≤ l.foldl (fun m x => m + f x) a ∧ ∀ x ∈ l, a + f x ≤ l.foldl (fun m x => m + f x) a
 | [], a => ⟨Nat.le_refl _, fun x hx => by simp at hx⟩
 | y :: l, a => by
  obtain ⟨h1, h2⟩ := foldl_add_ge (f := f) l (a + f y)
  refine ⟨by simp only [List.foldl_cons]; omega, fun x hx => ?_⟩
  simp only [List.foldl_cons]
  rcases List.mem_cons.1 hx with rfl | hx
  ·exact h1
  ·have := h2 x hx; omega
theorem foldl_take_le {f : DInline → Nat} (l : List DInline) (a v : Nat) : (l.take v).foldl (fun m x => m + f x) a ≤ l.foldl (fun m x => m + f x) a := by
 conv => rhs; rw [← List.take_append_drop v l, List.foldl_append]
 exact (foldl_add_ge (l.drop v) _).1
theorem szl_to : ∀ (n : Nat) (l : List DInline), nbN n l → szN n l ≤ 1073741824 → CallTo Tryz.prog 96 [jL (l.map aInline)] [] [] (jI ((szN n l : Nat) : Int)) [] [] := by
 intro n
 induction n with
 | zero =>
  intro l h _
  rw [show l = [] from h]
  refine bG Tryz.func96 ?_
  refine GO (tn 7 z) (by kernel_rfl) ?_
  refine uN (sx 22 [(3, jI 0), (8, jI 0), (9, jI 0)] [] []) 1 ?_
  refine GO (tn 1 (kb (b := decide ((0 : Int) < (0 : Int))) (d := false) rfl z)) (by kernel_rfl) ?_
  refine uO (tn 2 z) ?_
  exact eN
 | succ n ih =>
  intro l h hz
  have hlq := lenM_eq aInline l
  have hl := h.1
  refine bG Tryz.func96 ?_
  refine GO (tn 7 z) (by kernel_rfl) ?_
  refine LP (n := l.length + 1) (fun N M S => ∃ (v m : Nat), v ≤ l.length ∧ m = (l.take v).foldl (fun m x => m + szN n x.fKids) l.length ∧ l.length - v < N ∧ M = () ∧ S = sx 22 [(0, jL (l.map aInline)), (3, jI ((m : Nat) : Int)), (8, jI ((lenM aInline l : Nat) : Int)), (9, jI ((v : Nat) : Int))] [] []) (by kernel_rfl) ⟨0, lenM aInline l, by omega, by rw [hlq]; rfl, by omega, rfl, rfl⟩ (WK (by kernel_rfl)) ?_
  rintro n0 M S ⟨v, m, hv, hm, hF0, rfl, rfl⟩
  obtain ⟨n0, rfl⟩ : ∃ k, n0 = k + 1 := ⟨n0 - 1, by omega⟩
  have hmz : m ≤ 1073741824 := Nat.le_trans (by rw [hm]; exact foldl_take_le l _ v) hz
  by_cases h1 : v < l.length
  ·have hd : decide (((v : Nat) : Int) < ((lenM aInline l : Nat) : Int)) = true := dT (by omega)
   have hx := el_mem (l := l) (i := v) h1
   have hz2 : szN n (el l v).fKids ≤ 1073741824 := by
    have := (foldl_add_ge (f := fun x => szN n x.fKids) l l.length).2 _ hx
    have hz' : l.foldl (fun m x => m + szN n x.fKids) l.length ≤ 1073741824 := hz
    omega
   have hc := ih (el l v).fKids (h.2 _ hx).2.2 hz2
   have w1 := wrE (((m : Nat) : Int) + ((szN n (el l v).fKids : Nat) : Int)) ((m + szN n (el l v).fKids : Nat) : Int) (by omega)
   have w2 := wrE (((v : Nat) : Int) + 1) ((v + 1 : Nat) : Int) (by omega)
   refine GO (tn 1 (kb hd (tn 5 (ke (el_aInline l v h1) (tn 2 (kc hc (kn w1 (tn 1 (kn w2 (tn 1 z)))))))))) (by kernel_rfl) ?_
   exact AG (m := n0) ⟨v + 1, m + szN n (el l v).fKids, by omega, by rw [tk_el h1, List.foldl_append, ← hm]; rfl, by omega, rfl, rfl⟩ (WK (by kernel_rfl)) (by kernel_rfl) (Nat.lt_succ_self _)
  ·have hd : decide (((v : Nat) : Int) < ((lenM aInline l : Nat) : Int)) = false := dF (by omega)
   have hvl : v = l.length := by omega
   subst hvl
   rw [List.take_length] at hm
   have hm2 : m = szN (n + 1) l := hm
   rw [← hm2]
   refine GO (tn 1 (kb hd z)) (by kernel_rfl) ?_
   refine OUT (tn 2 z) (by kernel_rfl) ?_
   exact eN
def blk1 (l : List DInline) : AV := .agg [vI 0, vI 0, vS e0, vS e0, vS e0, vS e0, vS e0, .sl [], .sl [], .sl (l.map aInline), .sl []]
theorem szb0_to : CallTo Tryz.prog 58 [jL []] [] [] (jI 0) [] [] := by
 refine bG Tryz.func58 ?_
 refine GO (tn 7 z) (by kernel_rfl) ?_
 refine uN (sx 29 [(3, jI 0), (8, jI 0), (9, jI 0)] [] []) 1 ?_
 refine GO (tn 1 (kb (b := decide ((0 : Int) < (0 : Int))) (d := false) rfl z)) (by kernel_rfl) ?_
 refine uO (tn 2 z) ?_
 exact eN
theorem szb1_to (n : Nat) (l : List DInline) (h : nbN n l) (hz : szN n l ≤ 1073741824) : CallTo Tryz.prog 58 [jL [blk1 l]] [] [] (jI ((1 + szN n l : Nat) : Int)) [] [] := by
 have hc := szl_to n l h hz
 have hc0 := szb0_to
 have w1 := wrE (((szN n l : Nat) : Int) + 0) ((szN n l : Nat) : Int) (by omega)
 have w2 := wrE (1 + ((szN n l : Nat) : Int)) ((1 + szN n l : Nat) : Int) (by omega)
 have he : 0 ≤ (0 : Int) ∧ ([blk1 l] : List AV)[(0 : Int).toNat]? = some (blk1 l) := ⟨by decide, rfl⟩
 refine bG Tryz.func58 ?_
 refine GO (tn 7 z) (by kernel_rfl) ?_
 refine uN (sx 29 [(0, jL [blk1 l]), (3, jI 1), (8, jI 1), (9, jI 0)] [] []) 2 ?_
 refine GO (tn 1 (kb (b := decide ((0 : Int) < (1 : Int))) (d := true) rfl (tn 2 z))) (by kernel_rfl) ?_
 refine DR3 (tn 3 (ko (eO he) (kp he (tn 2 (ko (cO hc) (kp hc (tn 3 (ko (eO he) (kp he (tn 2 (ko (cO hc0) (kp hc0 (tn 1 (ko (nO w1) (kp w1 (ko (nO w2) (kp w2 (tn 1 (kn (wrE ((0 : Int) + 1) 1 (by omega)) (tn 1 z)))))))))))))))))))) (by kernel_rfl) (by kernel_rfl) (by kernel_rfl) ?_
 refine uA (sx 29 [(0, jL [blk1 l]), (3, jI ((1 + szN n l : Nat) : Int)), (8, jI 1), (9, jI 1)] [] []) ?_
 refine GO (tn 1 (kb (b := decide ((1 : Int) < (1 : Int))) (d := false) rfl z)) (by kernel_rfl) ?_
 refine uO (tn 2 z) ?_
 exact eN
theorem size_to (n : Nat) (l : List DInline) (h : nbN n l) (hz : szN n l ≤ 1073741824) : CallTo Tryz.prog 24 [.av (.agg [.sl [], .sl [blk1 l]])] [] [] (jI ((1 + szN n l : Nat) : Int)) [] [] := by
 have hc := szb1_to n l h hz
 refine bG Tryz.func24 ?_
 refine GO (tn 4 (kc hc (tn 1 z))) (by kernel_rfl) ?_
 exact eN
end Go.Proofs.YthbpjmogdonlkaaGreatDoor
namespace Go.Proofs.YthbpjmogdonlkaaGreatDoor
open Go Go.Eng
theorem inb0_to : CallTo Tryz.prog 56 [jL []] [] [] (jL []) [] [] := by
 refine bG Tryz.func56 ?_
 refine GO (tn 5 z) (by kernel_rfl) ?_
 refine uN (sx 53 [(3, .nil), (7, jI 0), (8, jI 0)] [] []) 1 ?_
 refine GO (tn 1 (kb (b := decide ((0 : Int) < (0 : Int))) (d := false) rfl z)) (by kernel_rfl) ?_
 refine uO (tn 2 z) ?_
 exact eN
theorem inb_to : ∀ (n : Nat) (l : List DInline), nbN n l → CallTo Tryz.prog 56 [jL (l.map aInline)] [] [] (jL (l.map aInline)) [] [] := by
 intro n
 induction n with
 | zero =>
  intro l h
  rw [show l = [] from h]
  exact inb0_to
 | succ n ih =>
  intro l h
  have hlq := lenM_eq aInline l
  have hl := h.1
  refine bG Tryz.func56 ?_
  refine GO (tn 5 z) (by kernel_rfl) ?_
  refine TELL 3 3 42 10 (by kernel_rfl) ?_
  refine LP (n := l.length + 1) (fun N M S => ∃ (v : Nat) (os : List AV), v ≤ l.length ∧ os = (l.take v).map aInline ∧ l.length - v < N ∧ M = () ∧ S = sx 53 [(0, jL (l.map aInline)), (3, .vs 3 v), (7, jI ((lenM aInline l : Nat) : Int)), (8, jI ((v : Nat) : Int))] [(3, .vec 42 10 os)] []) (by kernel_rfl) ⟨0, [], by omega, rfl, by omega, rfl, rfl⟩ (WK (by kernel_rfl)) ?_
  rintro n0 M S ⟨v, os, hv, hos, hF0, rfl, rfl⟩
  obtain ⟨n0, rfl⟩ : ∃ k, n0 = k + 1 := ⟨n0 - 1, by omega⟩
  have hol : os.length = v := by rw [hos, List.length_map, List.length_take]; omega
  by_cases h1 : v < l.length
  ·have hd : decide (((v : Nat) : Int) < ((lenM aInline l : Nat) : Int)) = true := dT (by omega)
   obtain ⟨k2, k3, hk⟩ := h.2 _ (el_mem (l := l) (i := v) h1)
   have hk2 : (((el l v).fKind : Int) == 2) = false := beq_false_of_ne k2
   have hc := ih (el l v).fKids hk
   have he := el_aInline l v h1
   have w2 := wrE (((v : Nat) : Int) + 1) ((v + 1 : Nat) : Int) (by omega)
   have hap : v ≤ os.length ∧ Uni 10 [cInline (el l v)] ∧ (v + ([cInline (el l v)] : List AV).length) * 192 ≤ 140737488355328 := ⟨by omega, uniI _, by simp; omega⟩
   have ff : (false : Bool) = false := rfl
   refine GO (tn 1 (kb hd (tn 4 (ke he (tn 4 (kb hk2 (kb hk2 (kb hk2 (tn 1 (kb ff (kb ff (kb ff (kb ff (kb ff (kb ff (kb ff (kb ff (kb ff (kb ff (kb ff (tn 2 (ke he (tn 5 (kc hc (tn 4 (kp (uniI (el l v)) (kp hap (tn 1 (kn w2 (tn 1 z)))))))))))))))))))))))))))))) (by kernel_rfl) ?_
   refine AG (m := n0) (S'' := sx 53 [(0, jL (l.map aInline)), (3, .vs 3 (v + 1)), (7, jI ((lenM aInline l : Nat) : Int)), (8, jI ((v + 1 : Nat) : Int))] [(3, .vec 42 10 (os.take v ++ [cInline (el l v)]))] []) ⟨v + 1, _, by omega, ?_, by omega, rfl, rfl⟩ (WK (by kernel_rfl)) (by kernel_rfl) (Nat.lt_succ_self _)
   rw [tk_el h1, List.map_append, ← hos, List.take_of_length_le (by omega), List.map_singleton, aInline_eq]; rfl
  ·have hd : decide (((v : Nat) : Int) < ((lenM aInline l : Nat) : Int)) = false := dF (by omega)
   have hvl : v = l.length := by omega
   subst hvl
   rw [List.take_length] at hos
   refine GO (tn 1 (kb hd z)) (by kernel_rfl) ?_
   refine OUT (kq 10 z) (by kernel_rfl) ?_
   refine FRZ 3 3 (n := l.length) (l := os) (l' := l.map aInline) (by kernel_rfl) (by omega) (by rw [← hos, List.take_of_length_le (by omega)]) ?_
   refine GO (tn 2 z) (by kernel_rfl) ?_
   exact eN
theorem oub_to (l : List DInline) (hl : l.length ≤ 1048576) (h0 : 0 < l.length) (h : ∀ x ∈ l, x.fKind ≠ 2 ∧ x.fKind ≠ 3) : CallTo Tryz.prog 55 [jL (l.map aInline)] [] [] (jL (l.map aInline)) [] [] := by
 have hlq := lenM_eq aInline l
 have hd : decide (((lenM aInline l : Nat) : Int) > 0) = true := dT (by omega)
 have he0 := el_aInline l 0 h0
 have k0 : (((el l 0).fKind : Int) == 2) = false := beq_false_of_ne (h _ (el_mem (l := l) (i := 0) h0)).1
 have w1 := wrE (((lenM aInline l : Nat) : Int) - 1) ((l.length - 1 : Nat) : Int) (by omega)
 have hel := el_aInline l (l.length - 1) (by omega)
 have km := h _ (el_mem (l := l) (i := l.length - 1) (by omega))
 have k2 : (((el l (l.length - 1)).fKind : Int) == 2) = false := beq_false_of_ne km.1
 have k3 : (((el l (l.length - 1)).fKind : Int) == 3) = false := beq_false_of_ne km.2
 refine bG Tryz.func55 ?_
 refine GO (tn 5 (kb hd (tn 1 (kb hd (ke he0 (kb hd (tn 1 (kb hd (tn 1 (kb hd (tn 1 (kb hd (kb k0 z))))))))))))) (by kernel_rfl) ?_
 refine uN (sx 44 [(0, jL (l.map aInline))] [] []) 1 ?_
 refine GO (tn 4 (kb hd (tn 1 (kb hd (tn 1 (kb hd (tn 1 (kb hd (kn w1 (kb hd (ke hel (kb hd (tn 1 (kb hd (tn 1 (kb hd (tn 1 (kb hd (tn 1 (kb k2 (tn 1 (kb k2 (tn 1 (kb k2 (tn 1 (kb k2 (kn w1 (kb k2 (ke hel (kb k2 (tn 1 (kb k2 (tn 1 (kb k2 (tn 1 (kb hd (kb k2 (kb hd (kb k3 z))))))))))))))))))))))))))))))))))))))) (by kernel_rfl) ?_
 refine uO (tn 2 z) ?_
 exact eN
end Go.Proofs.YthbpjmogdonlkaaGreatDoor
namespace Go.Proofs.YthbpjmogdonlkaaGreatDoor
open Go Go.Eng
end Go.Proofs.YthbpjmogdonlkaaGreatDoor
namespace Go.Proofs.YthbpjmogdonlkaaGreatDoor
open Go Go.Eng
def txI (t : ByteArray) : DInline := DInline.mk 1 t ⟨#[]⟩ ⟨#[]⟩ ⟨⟨#[]⟩, [], []⟩ [] [] []
def cbS (s : ByteArray) (els : List DElem) (n : Nat) (brs : List Int) (f refs i : Int) : St := sx 97 [(0, .ptr 1000 0), (1, jI i), (5, jI f)] [(1000, rdC s els.length n refs), (2001, elB els), (2002, brB brs)] []
theorem cb5 (s : ByteArray) (els : List DElem) (bs : List Int) (f refs i : Int) (hb : bs.length ≤ 1073741824) : W Tryz.prog (.region 5 (regOps 5 Tryz.f91) true) (fun e S1 => e = .normal ∧ Weak S1 (cbS s els bs.length bs f refs i)) (cbS s els (bs ++ [f]).length (bs ++ [f]) f refs i) := by
 have hm1 : IntKind.i64.wrap ((((bs ++ [f]).length : Nat) : Int) - 1) = ((bs.length : Nat) : Int) := wrE _ _ (by simp; omega)
 have hC : (0 : Int) = 0 ∧ 0 ≤ IntKind.i64.wrap ((((bs ++ [f]).length : Nat) : Int) - 1) ∧ IntKind.i64.wrap ((((bs ++ [f]).length : Nat) : Int) - 1) ≤ (((bs ++ [f]).length : Nat) : Int) := by rw [hm1]; refine ⟨rfl, by omega, by simp; omega⟩
 have h := W_pushX (P := Tryz.prog) (id := 5) (ops := regOps 5 Tryz.f91) (S := cbS s els (bs ++ [f]).length (bs ++ [f]) f refs i) (cs := [True, True, True, True, True, True, True, True, True, True, True, _, _, True, True, True, True]) 11 (by kernel_rfl) (by kernel_rfl) 97 [(0, .ptr 1000 0), (1, jI i), (5, jI f)] [(1000, rdC s els.length (Int.toNat (IntKind.i64.wrap ((((bs ++ [f]).length : Nat) : Int) - 1))) refs), (2001, elB els), (2002, brB (bs ++ [f]))] [] ⟨trivial, trivial, trivial, trivial, trivial, trivial, trivial, trivial, trivial, trivial, trivial, hC, hC, trivial, trivial, trivial, trivial, trivial⟩ (by kernel_rfl) (by kernel_rfl)
 rw [hm1] at h
 refine W_mono h ?_
 rintro e S1 ⟨h1, h2⟩
 refine ⟨h1, fun G w a hr => ?_⟩
 have h3 := cut_weak (S := sx 97 [(0, .ptr 1000 0), (1, jI i), (5, jI f)] [(1000, rdC s els.length bs.length refs), (2001, elB els), (2002, brB (bs ++ [f]))] []) (b := 2002) bs.length rfl G w a (h2 G w a hr)
 rw [show ((bs ++ [f]).map vI).take bs.length = bs.map vI by simp [List.take_append]] at h3
 exact h3
def rdK (s : ByteArray) (els : List DElem) (brs : List Int) (refs : Int) : List (Nat × ABox) := [(1000, rdC s els.length brs.length refs), (2001, .vck 107 21 (els.map aElem)), (2002, .vck 3 1 (brs.map vI))]
def BrkTo (s : ByteArray) (els : List DElem) (brs : List Int) (refs : Int) (b : DElem) (o : Nat) (i : Int) (r : DInline × Int × Bool) : Prop :=
 CallTo Tryz.prog 145 [.ptr 1000 0, .av (cElem b), .vw 2001 21 o (els.length - o), jI i] (rdB s els brs refs) [] (.av (.tup [cInline r.1, vI r.2.1, vB r.2.2])) (rdK s els brs refs) []
theorem cls2_to (s : ByteArray) (els : List DElem) (bs : List Int) (f refs i : Int) (x : DInline) (j : Int) (hk : BrkTo s els bs refs (el els f.toNat) (f + 1).toNat i (x, j, true)) (he : els.length ≤ 1073741824) (hr : 0 ≤ refs ∧ refs ≤ 1073741824) (hb : bs.length ≤ 1073741824) (hf : 0 ≤ f ∧ f < els.length) :
  CallTo Tryz.prog 91 [.ptr 1000 0, jI i] (rdB s els (bs ++ [f]) refs) [] (jI j) (rdB s (els.take f.toNat ++ [inE x]) bs (cond (refB x.fKind) (refs + 1) refs)) [] := by
 have hm : ((((bs ++ [f]).length : Nat) : Int) == 0) = false := by
  rw [beq_eq_false_iff_ne, List.length_append]; simp; omega
 have hm1 : IntKind.i64.wrap ((((bs ++ [f]).length : Nat) : Int) - 1) = ((bs.length : Nat) : Int) := wrE _ _ (by simp; omega)
 have hi1 : 0 ≤ ((bs.length : Nat) : Int) ∧ ((bs.length : Nat) : Int) < (((bs ++ [f]).length : Nat) : Int) := ⟨by omega, by simp; omega⟩
 have he1 : 0 ≤ ((bs.length : Nat) : Int) ∧ ((bs ++ [f]).map vI)[((bs.length : Nat) : Int).toNat]? = some (vI f) := ⟨by omega, by simp⟩
 refine bGs Tryz.func91 ?_
 refine GO (tn 7 (kb hm z)) (by kernel_rfl) ?_
 refine DR3 (tn 9 (kn hm1 (kp hi1 (ke he1 (tn 1 z))))) (by kernel_rfl) (by kernel_rfl) (by kernel_rfl) ?_
 have hi2 : 0 ≤ f ∧ f < ((els.length : Nat) : Int) := hf
 have he2 : 0 ≤ f ∧ (els.map aElem)[f.toNat]? = some (aElem (el els f.toNat)) := elI_aElem els f hf.1 hf.2
 refine NXW (cbS s els bs.length bs f refs i) (tn 5 (kp hi2 (ke he2 (tn 2 z)))) (by kernel_rfl) ?_ (by kernel_rfl) ?_
 ·refine W_weak (S' := cbS s els (bs ++ [f]).length (bs ++ [f]) f refs i) (WK (by kernel_rfl)) ?_
  exact W_code (c' := .region 5 (regOps 5 Tryz.f91) true) (by kernel_rfl) (cb5 s els bs f refs i hb)
 have hadd : IntKind.i64.wrap (f + 1) = f + 1 := wrE _ _ (by omega)
 have hsl : 0 ≤ f + 1 ∧ f + 1 ≤ ((els.length : Nat) : Int) ∧ ((els.length : Nat) : Int) ≤ ((els.length : Nat) : Int) := ⟨by omega, by omega, Int.le_refl _⟩
 refine DR3 (tn 7 (kn hadd (kp hsl (tn 1 (ko (cO hk) (kp hk (tn 13 z))))))) (by kernel_rfl) (by kernel_rfl) (by kernel_rfl) ?_
 have hs2 : (0 : Int) = 0 ∧ 0 ≤ f ∧ f ≤ ((els.length : Nat) : Int) := ⟨rfl, hf.1, by omega⟩
 refine GO (kb (b := !true) (d := false) rfl (tn 6 (kp hs2 (tn 3 (kq 13 z))))) (by kernel_rfl) ?_
 refine CUTV (e := 107) (sz := 21) 2001 f.toNat (by kernel_rfl) (l' := (els.take f.toNat).map aElem) (by rw [List.map_take]) ?_
 have hlt : (els.take f.toNat).length = f.toNat := by rw [List.length_take]; omega
 have hc := add_to s (els.take f.toNat) bs refs x (by omega) hr
 rw [show rdB s (els.take f.toNat) bs refs = [(1000, rdC s f.toNat bs.length refs), (2001, elB (els.take f.toNat)), (2002, brB bs)] by simp [rdB, hlt]] at hc
 refine GO (tn 2 (kg hc trivial (tn 2 z))) (by kernel_rfl) ?_
 exact eNs
end Go.Proofs.YthbpjmogdonlkaaGreatDoor
namespace Go.Proofs.YthbpjmogdonlkaaGreatDoor
open Go Go.Eng
def pcS (s : ByteArray) (els : List DElem) (brs : List Int) (refs : Int) (p : DPiece) : St := sx 64 [(0, .ptr 1000 0), (3, .ptr 3 0)] ((3, .cells 68 (sPiece p)) :: rdB s els brs refs) []
def pcT (s : ByteArray) (els : List DElem) (brs : List Int) (refs : Int) (p : DPiece) : St := sx 64 [(0, .ptr 1000 0), (3, .ptr 3 0)] (rdB s els brs refs ++ [(3, .cells 68 (sPiece p))]) []
def opnE (p : DPiece) (refs : Int) : DElem := DElem.mk 2 (DPiece.mk 0 (DInline.mk 0 ⟨#[]⟩ ⟨#[]⟩ ⟨#[]⟩ ⟨⟨#[]⟩, [], []⟩ [] [] []) ⟨#[]⟩ 0 false false false 0 0) p.fImage refs
theorem rdB_snoc' (s : ByteArray) (els : List DElem) (brs : List Int) (refs : Int) (e : DElem) (l : List (Nat × ABox)) : ([(1000, rdC s (els.length + 1) brs.length refs), (2001, ABox.vec 107 21 ((els.map aElem).take els.length ++ [aElem e])), (2002, brB brs)] ++ l) = rdB s (els ++ [e]) brs refs ++ l := by
 rw [rdB_snoc]
theorem pOth_to (s : ByteArray) (els : List DElem) (brs : List Int) (refs : Int) (p : DPiece) (he : els.length ≤ 1073741824) (hr : 0 ≤ refs ∧ refs ≤ 1073741824) (h1 : p.fKind ≠ 1) (h2 : p.fKind ≠ 2) (h3 : p.fKind ≠ 3) :
  CallTo Tryz.prog 52 [.ptr 1000 0, .av (cPiece p)] (rdB s els brs refs) [] (jI p.fTo) (rdB s (els ++ [inE p.fInline]) brs (cond (refB p.fInline.fKind) (refs + 1) refs)) [] := by
 have hc := add_to s els brs refs p.fInline he hr
 refine bGs Tryz.func52 ?_
 refine GO (tn 6 (kb (b := p.fKind == 1) (d := false) (beq_false_of_ne h1) (tn 2 (kb (b := p.fKind == 2) (d := false) (beq_false_of_ne h2) (tn 2 (kb (b := p.fKind == 3) (d := false) (beq_false_of_ne h3) (tn 3 (kg hc trivial (tn 3 z))))))))) (by kernel_rfl) ?_
 exact eNs
theorem pCls_to (s : ByteArray) (els els' : List DElem) (brs brs' : List Int) (refs refs' : Int) (p : DPiece) (to : Int) (h3 : p.fKind = 3)
  (hc : CallTo Tryz.prog 91 [.ptr 1000 0, jI p.fTo] (rdB s els brs refs) [] (jI to) (rdB s els' brs' refs') []) :
  CallTo Tryz.prog 52 [.ptr 1000 0, .av (cPiece p)] (rdB s els brs refs) [] (jI to) (rdB s els' brs' refs') [] := by
 refine bGs Tryz.func52 ?_
 refine GO (tn 6 (kb (b := p.fKind == 1) (d := false) (by rw [h3]; rfl) (tn 2 (kb (b := p.fKind == 2) (d := false) (by rw [h3]; rfl) (tn 2 (kb (b := p.fKind == 3) (d := true) (by rw [h3]; rfl) (tn 3 (kg hc trivial (tn 1 z))))))))) (by kernel_rfl) ?_
 exact eNs
theorem rdB_brs (s : ByteArray) (els : List DElem) (brs : List Int) (refs : Int) (k : Int) (l : List (Nat × ABox)) : ([(1000, rdC s els.length (brs.length + 1) refs), (2001, elB els), (2002, ABox.vec 3 1 ((brs.map vI).take brs.length ++ [vI k]))] ++ l) = rdB s els (brs ++ [k]) refs ++ l := by
 simp [rdB, brB, List.take_of_length_le]
theorem pc6 (s : ByteArray) (els : List DElem) (brs : List Int) (refs : Int) (p : DPiece) (hb : brs.length ≤ 1073741824) : W Tryz.prog (.region 6 (regOps 6 Tryz.f52) true) (fun e S1 => e = .normal ∧ Weak S1 (pcT s els (brs ++ [((els.length : Nat) : Int)]) refs p)) (pcS s els brs refs p) := by
 have hu : Uni 1 [vI ((els.length : Nat) : Int)] := uni1 rfl rfl
 have hC : cBnd brs.length 8 1 (brs.map vI) (vI ((els.length : Nat) : Int)) := ⟨by simp, hu, by simp; omega⟩
 unfold pcT
 rw [← rdB_brs]
 exact W_pushX (cs := [True, True, True, True, True, True, True, True, True, True, Uni 1 [vI ((els.length : Nat) : Int)], cBnd brs.length 8 1 (brs.map vI) (vI ((els.length : Nat) : Int)), cBnd brs.length 8 1 (brs.map vI) (vI ((els.length : Nat) : Int)), True, True, True, True]) 11 (by kernel_rfl) (by kernel_rfl) 64 [(0, .ptr 1000 0), (3, .ptr 3 0)] _ [] ⟨trivial, trivial, trivial, trivial, trivial, trivial, trivial, trivial, trivial, trivial, hu, hC, hC, trivial, trivial, trivial, trivial, trivial⟩ (by kernel_rfl) (by kernel_rfl)
theorem pc7 (s : ByteArray) (els : List DElem) (brs : List Int) (refs : Int) (p : DPiece) (he : els.length ≤ 1073741824) : W Tryz.prog (.region 7 (regOps 7 Tryz.f52) true) (fun e S1 => e = .normal ∧ Weak S1 (pcT s (els ++ [opnE p refs]) brs refs p)) (pcS s els brs refs p) := by
 have hu : Uni 21 [aElem (opnE p refs)] := uni1 rfl rfl
 have hC : cBnd els.length 272 21 (els.map aElem) (aElem (opnE p refs)) := ⟨by simp, hu, by simp; omega⟩
 unfold pcT
 rw [← rdB_snoc']
 exact W_pushX (cs := [True, True, True, True, True, True, True, True, True, True, True, True, Uni 21 [aElem (opnE p refs)], cBnd els.length 272 21 (els.map aElem) (aElem (opnE p refs)), cBnd els.length 272 21 (els.map aElem) (aElem (opnE p refs)), True, True, True, True]) 13 (by kernel_rfl) (by kernel_rfl) 64 [(0, .ptr 1000 0), (3, .ptr 3 0)] _ [] ⟨trivial, trivial, trivial, trivial, trivial, trivial, trivial, trivial, trivial, trivial, trivial, trivial, hu, hC, hC, trivial, trivial, trivial, trivial, trivial⟩ (by kernel_rfl) (by kernel_rfl)
theorem pOpn_to (s : ByteArray) (els : List DElem) (brs : List Int) (refs : Int) (p : DPiece) (he : els.length ≤ 1073741824) (hb : brs.length ≤ 1073741824) (hk : p.fKind = 2) :
  CallTo Tryz.prog 52 [.ptr 1000 0, .av (cPiece p)] (rdB s els brs refs) [] (jI p.fTo) (rdB s (els ++ [opnE p refs]) (brs ++ [((els.length : Nat) : Int)]) refs) [] := by
 refine bGs Tryz.func52 ?_
 refine GO (tn 6 (kb (b := p.fKind == 1) (d := false) (by rw [hk]; rfl) (tn 2 (kb (b := p.fKind == 2) (d := true) (by rw [hk]; rfl) z)))) (by kernel_rfl) ?_
 refine NXW (pcT s els (brs ++ [((els.length : Nat) : Int)]) refs p) z (by kernel_rfl) ?_ (by kernel_rfl) ?_
 ·refine W_weak (S' := pcS s els brs refs p) (WK (by kernel_rfl)) ?_
  exact W_code (c' := .region 6 (regOps 6 Tryz.f52) true) (by kernel_rfl) (pc6 s els brs refs p hb)
 refine NXW (pcT s (els ++ [opnE p refs]) (brs ++ [((els.length : Nat) : Int)]) refs p) (tn 3 z) (by kernel_rfl) ?_ (by kernel_rfl) ?_
 ·refine W_weak (S' := pcS s els (brs ++ [((els.length : Nat) : Int)]) refs p) (WK (by kernel_rfl)) ?_
  exact W_code (c' := .region 7 (regOps 7 Tryz.f52) true) (by kernel_rfl) (pc7 s els (brs ++ [((els.length : Nat) : Int)]) refs p he)
 exact eNs
end Go.Proofs.YthbpjmogdonlkaaGreatDoor
namespace Go.Proofs.YthbpjmogdonlkaaGreatDoor
open Go Go.Eng
def scC (s : ByteArray) : ABox := .cells 149 [jS s, NOT, NOT]
def pcA (s : ByteArray) (i : Int) : DPiece := { (pceP s i).1 with fAt := i }
def SPB (s : ByteArray) (i : Int) : Prop := BYi s i ≠ 92 ∧ BYi s i ≠ 38 ∧ BYi s i ≠ 36 ∧ BYi s i ≠ 96 ∧ BYi s i ≠ 60 ∧ BYi s i ≠ 123 ∧ BYi s i ≠ 33 ∧ BYi s i ≠ 42 ∧ BYi s i ≠ 95 ∧ BYi s i ≠ 126
theorem pcs1_to (s : ByteArray) (i : Int) (hs : s.size ≤ 1073741824) (h0 : 0 ≤ i) (h1 : i < s.size) (ha : A7 s) (hc : NoC s) (hk : SPB s i) :
  CallTo Tryz.prog 89 [jI i, .ptr 1000 0] [(1000, scC s)] [] (.av (.tup [cPiece (pcA s i), vB (pceP s i).2])) [(1000, scC s)] [] := by
 have hp := pceP_to s i hs h0 h1 ha hc hk
 refine bGs Tryz.func89 ?_
 refine GO (tn 4 (kc hp (tn 13 z))) (by kernel_rfl) ?_
 exact eNs
theorem pis_to (s : ByteArray) (hs : s.size ≤ 1073741824) (hb : NoT s) : CallNew Tryz.prog 51 [jS s] [(3, scC s)] (.fn 89 [] [.ptr 3 0]) := by
 have hr := rns_to s hs hb
 refine BEGn Tryz.func51 (by kernel_rfl) ?_
 refine GO (tn 3 (kc hr (tn 5 z))) (by kernel_rfl) ?_
 exact eNs
end Go.Proofs.YthbpjmogdonlkaaGreatDoor
namespace Go.Proofs.YthbpjmogdonlkaaGreatDoor
open Go Go.Eng
structure RS where
 i : Int
 els : List DElem
 brs : List Int
 refs : Int
def PNext (s : ByteArray) (i : Int) (p : DPiece) (b : Bool) : Prop := CallTo Tryz.prog 89 [jI i, .ptr 1000 0] [(1000, scC s)] [] (.av (.tup [cPiece p, vB b])) [(1000, scC s)] []
def PTake (s : ByteArray) (p : DPiece) (a b : RS) : Prop := CallTo Tryz.prog 52 [.ptr 1000 0, .av (cPiece p)] (rdB s a.els a.brs a.refs) [] (jI b.i) (rdB s b.els b.brs b.refs) []
def Stp (s : ByteArray) (a b : RS) : Prop := a.i < s.size ∧ ∃ p pl, PNext s a.i p pl ∧ PTake s p a b
inductive Rdg (s : ByteArray) : Nat → RS → RS → Prop
 | nil (a : RS) : Rdg s 0 a a
 | cons {n : Nat} {a b c : RS} (h : Stp s a b) (hr : Rdg s n b c) : Rdg s (n + 1) a c
theorem Rdg.trans {s : ByteArray} {n m : Nat} {a b c : RS} (h : Rdg s n a b) (k : Rdg s m b c) : Rdg s (n + m) a c := by
 induction h with
 | nil a => rw [Nat.zero_add]; exact k
 | cons h hr ih => rw [Nat.add_right_comm]; exact .cons h (ih k)
def rdL (s : ByteArray) (a : RS) : St := sx 66 [(0, .ptr 1000 0), (3, .fn 89 [] [.ptr 3 0]), (4, .fn 52 [.ptr 1000 0] []), (5, jI a.i)] ((3, scC s) :: rdB s a.els a.brs a.refs) []
theorem rd1 (s : ByteArray) (hs : s.size ≤ 1073741824) (hb : NoT s) : W Tryz.prog (.region 1 (regOps 1 Tryz.f23) false) (fun e S1 => e = .normal ∧ Weak S1 (sx 66 [(0, .ptr 1000 0), (3, .fn 89 [] [.ptr 3 0])] ((3, scC s) :: rdB s [] [] 0) [])) (sx 66 [(0, .ptr 1000 0)] (rdB s [] [] 0) []) := by
 refine W_regionO ?_
 rw [show (regOps 1 Tryz.f23).toList = [regO 1 Tryz.f23 0, regO 1 Tryz.f23 1, regO 1 Tryz.f23 2, regO 1 Tryz.f23 3, regO 1 Tryz.f23 4, regO 1 Tryz.f23 5] by kernel_rfl]
 refine WO_split (S' := sx 66 [(0, .ptr 1000 0), (13, jS s)] (rdB s [] [] 0) []) 4 ?_ ?_
 ·exact WO_runX (cs := [True, True, True, True]) [] 66 [(0, .ptr 1000 0), (13, jS s)] (rdB s [] [] 0) [] ⟨trivial, trivial, trivial, trivial, trivial⟩ (by kernel_rfl) (WK (by kernel_rfl))
 refine WO_new (nb := [(3, scC s)]) (res := .fn 89 [] [.ptr 3 0]) (f := 51) (x := .func 51) (args := #[.tmp 13]) (tys := #[9]) (fs := []) (cs := []) 14 (by kernel_rfl) (by kernel_rfl) rfl (castp (by kernel_rfl) (pis_to s hs hb)) (by kernel_rfl) (by kernel_rfl) ?_
 refine WO_pure (.fn 89 [] [.ptr 3 0]) 3 (by kernel_rfl) (by kernel_rfl) ?_
 exact WO_nil rfl ⟨rfl, WK (by kernel_rfl)⟩
theorem nesR_to (els : List DElem) (he : els.length ≤ 536870912) (hN : NsOk els 0 els.length) : CallTo Tryz.prog 57 [.vs 2001 els.length] [(2001, elB els)] [] (jL ((nstM els 0 els.length).map aInline)) [(2001, .vck 107 21 (els.map aElem))] [] := by
 have h := nes_to els 0 els.length (by omega) he hN
 have h2 : CallTo Tryz.prog 57 [.vw 2001 21 0 els.length] [(2001, elB els)] [] (jL ((nstM els 0 els.length).map aInline)) [(2001, .vck 107 21 (els.map aElem))] [] := castp (by kernel_rfl) (CallTo_ren (swap_inv (1001, 0) (2001, 0) rfl) h)
 refine CallTo_args h2 (fun G w vs hv => ?_)
 obtain ⟨u, us, h1, hr, h3⟩ := hv
 refine ⟨u, us, h1, ?_, h3⟩
 rcases hr with ⟨h0, hu, _⟩ | ⟨blk, _, ho, hu, hc⟩
 ·exact ⟨none, 0, by rw [hu, h0], by omega, .inl h0⟩
 ·exact ⟨_, _, hu, hc, .inr ⟨blk, ho, by simp⟩⟩
theorem read_to (s : ByteArray) (hs : s.size ≤ 1073741824) (hb : NoT s) (n : Nat) (f : RS) (hR : Rdg s n ⟨0, [], [], 0⟩ f) (hf : s.size ≤ f.i) (hbr : f.brs = []) (he : f.els.length ≤ 536870912) (hN : NsOk f.els 0 f.els.length) (k : Nat) (hnb : nbN k (nstM f.els 0 f.els.length)) (h0 : 0 < (nstM f.els 0 f.els.length).length) (hk : ∀ x ∈ nstM f.els 0 f.els.length, x.fKind ≠ 2 ∧ x.fKind ≠ 3) :
  CallTo Tryz.prog 23 [.ptr 1000 0] (rdB s [] [] 0) [] (jL ((nstM f.els 0 f.els.length).map aInline)) (rdB s f.els [] f.refs) [] := by
 obtain ⟨fi, fe, fb, fr⟩ := f
 simp only at hf hbr he hN hnb h0 hk ⊢
 subst hbr
 refine bGs Tryz.func23 ?_
 refine GO (tn 1 (kq 1 z)) (by kernel_rfl) ?_
 refine NXW (sx 66 [(0, .ptr 1000 0), (3, .fn 89 [] [.ptr 3 0])] ((3, scC s) :: rdB s [] [] 0) []) (tn 4 z) (by kernel_rfl) ?_ (by kernel_rfl) ?_
 ·refine W_weak (S' := sx 66 [(0, .ptr 1000 0)] (rdB s [] [] 0) []) (WK (by kernel_rfl)) ?_
  exact W_code (c' := .region 1 (regOps 1 Tryz.f23) false) (by kernel_rfl) (rd1 s hs hb)
 refine LP (n := n + 1) (fun N M S => ∃ (m : Nat) (a : RS), Rdg s m a ⟨fi, fe, [], fr⟩ ∧ m < N ∧ M = () ∧ S = rdL s a) (by kernel_rfl) ⟨n, ⟨0, [], [], 0⟩, hR, by omega, rfl, rfl⟩ (WK (by kernel_rfl)) ?_
 rintro n0 M S ⟨m, a, hRa, hF0, rfl, rfl⟩
 obtain ⟨n0, rfl⟩ : ∃ k, n0 = k + 1 := ⟨n0 - 1, by omega⟩
 cases hRa with
 | cons h hr =>
  rename_i m b
  obtain ⟨hlt, p, pl, hn, ht⟩ := h
  have hd : decide (a.i < ((ByteArray.size s : Nat) : Int)) = true := dT hlt
  have hn2 : CallTo Tryz.prog 89 [jI a.i, .ptr 3 0] [(3, scC s)] [] (.av (.tup [cPiece p, vB pl])) [(3, scC s)] [] := castp (by kernel_rfl) (CallTo_ren (swap_inv (3, 0) (1000, 0) rfl) hn)
  refine GO (tn 7 (kb hd (tn 2 (kg hn2 trivial (tn 8 (kg ht trivial (tn 1 z))))))) (by kernel_rfl) ?_
  exact AG (m := n0) ⟨m, b, hr, by omega, rfl, rfl⟩ (WK (by kernel_rfl)) (by kernel_rfl) (Nat.lt_succ_self _)
 | nil =>
  have hd : decide (fi < ((ByteArray.size s : Nat) : Int)) = false := dF (by omega)
  have hc := nesR_to fe he hN
  have hi := inb_to k _ hnb
  have ho := oub_to (nstM fe 0 fe.length) hnb.len h0 hk
  refine GO (tn 7 (kb hd z)) (by kernel_rfl) ?_
  refine OUT (tn 6 z) (by kernel_rfl) ?_
  refine uN (sx 66 [(0, .ptr 1000 0), (37, jI 0), (38, jI 0)] (rdB s fe [] fr) []) 1 ?_
  refine GO (tn 1 (kb (b := decide ((0 : Int) < (0 : Int))) (d := false) rfl z)) (by kernel_rfl) ?_
  refine uO (tn 4 (kg hc trivial (kc hi (kc ho (tn 1 z))))) ?_
  exact eNs
end Go.Proofs.YthbpjmogdonlkaaGreatDoor
namespace Go.Proofs.YthbpjmogdonlkaaGreatDoor
open Go Go.Eng
def WSP : ByteArray := ⟨#[32, 10]⟩
def rd4 (s : ByteArray) (els : List DElem) (brs : List Int) (refs : Int) : List (Nat × ABox) := [(4, rdC s els.length brs.length refs), (2001, elB els), (2002, brB brs)]
theorem ghost_weak {S S' : St} (h : Weak S S') : Ghost S S' := fun G w a hr => ⟨G, Step.refl G w, h G w a hr, fun _ _ => rfl⟩
def rdZ : Value := .agg #[.string ⟨#[]⟩, .slice none 0 0, .slice none 0 0, .int .i64 0]
def rdA (t : ByteArray) : SV := .ag [.av (vS t), .nil, .nil, .av (vI 0)]
theorem WO_rdr {ops : Array Oper} {o1 : Oper} {rest : List Oper} {Q : St → Prop} {S : St} {t m d1 bt : Nat} {s : ByteArray}
  (ho1 : o1.op = .build t #[(0, .tmp m)]) (hd1 : o1.dst = some d1) (hg1 : o1.guard = none) (hi : tInfo Tryz.prog t = some (4, bt, some rdZ)) (hpl : tPlaces Tryz.prog t = some [(0, 1), (1, 1), (2, 1), (3, 1)]) (hm : S.fr[m]? = some (.av (.val (.string s))))
  (h : WO Tryz.prog ops rest Q (S.put (some d1) (rdA s))) : WO Tryz.prog ops (o1 :: rest) Q S := by
 intro more Q' G w a hr hq
 have em : a.eval (.tmp m) = .string s := (hr.fr m _ hm).1
 have x1 : (execOp a.eval o1).run Tryz.prog w = .ok (.value (.agg #[.string s, .slice none 0 0, .slice none 0 0, .int .i64 0])) w := by
  unfold tPlaces at hpl
  split at hpl
  ·rename_i fs hu
   have hmm := Eng.run_places w fs.toList _ hpl
   have hm2 : (fs.mapM (fun f => do pure (f.offset, ← sizeOf f.type)) : Sem (Array (Nat × Nat))).run Tryz.prog w = .ok #[(0, 1), (1, 1), (2, 1), (3, 1)] w := by
    rw [Array.mapM_eq_mapM_toList]
    simp only [Sem.run_map, hmm, Result.andThen_ok]
   simp only [bind_pure_comp] at hm2
   have hf : Instr.fill (fun i : Nat => (#[(0, 1), (1, 1), (2, 1), (3, 1)] : Array (Nat × Nat))[i]?) #[.string ⟨#[]⟩, .slice none 0 0, .slice none 0 0, .int .i64 0] [(0, .string s)] = some #[.string s, .slice none 0 0, .slice none 0 0, .int .i64 0] := rfl
   simp [execOp, ho1, Instr.build, run_zeroValue' hi, run_underlying' hu, hm2, em, rdZ]
   rfl
  ·simp at hpl
 simp only [List.cons_append, wpList]
 rw [if_pos (wanted_none hg1 a)]
 refine .inl ?_
 unfold Oper.wp
 rw [x1, Oper.upon_value, hd1]
 refine h more Q' G w _ (hr.put (some d1) ?_) hq
 refine ⟨_, rfl, ⟨_, _, rfl, ⟨rfl, rfl⟩, _, _, rfl, rfl, _, _, rfl, rfl, _, _, rfl, ⟨rfl, rfl⟩, rfl⟩, ?_⟩
 intro x hx
 simp only [List.mem_cons, List.not_mem_nil, or_false] at hx
 rcases hx with rfl | rfl | rfl | rfl <;> rfl
def rdP (t : ByteArray) : St := sx 24 [(4, .ptr 4 0)] [(4, .cells 52 [jS t, .nil, .nil, jI 0])] []
theorem pa3 (s t : ByteArray) (hs : s.size ≤ 262144) (ht : trmB s WSP = t) : W Tryz.prog (.region 3 (regOps 3 Tryz.f11) false) (fun e S1 => e = .normal ∧ Weak S1 (rdP t)) (sx 24 [(0, jS s)] [] []) := by
 have htr := trmB_to s WSP (by omega) (by decide) (A7.lit (by decide))
 rw [ht] at htr
 refine W_regionO ?_
 rw [show (regOps 3 Tryz.f11).toList = [regO 3 Tryz.f11 0, regO 3 Tryz.f11 1, regO 3 Tryz.f11 2, regO 3 Tryz.f11 3, regO 3 Tryz.f11 4] by kernel_rfl]
 refine WO_split (S' := sx 24 [(10, jS t)] [] []) 2 ?_ ?_
 ·exact WO_runX (cs := [True, _, True]) [cO htr] 24 [(10, jS t)] [] [] ⟨trivial, htr, trivial, trivial⟩ (by kernel_rfl) (WK (by kernel_rfl))
 refine WO_rdr (t := 52) (m := 10) (d1 := 11) (bt := 72) (s := t) (by kernel_rfl) (by kernel_rfl) (by kernel_rfl) (by kernel_rfl) (by kernel_rfl) (by kernel_rfl) ?_
 exact WO_runX (cs := [True, True]) [] 24 [(4, .ptr 4 0)] [(4, .cells 52 [jS t, .nil, .nil, jI 0])] [] ⟨trivial, trivial, trivial⟩ (by kernel_rfl) ⟨rfl, WK (by kernel_rfl)⟩
theorem par_to (s t : ByteArray) (els : List DElem) (refs : Int) (l : List DInline) (hs : s.size ≤ 262144) (ht : trmB s WSP = t)
  (hR : CallTo Tryz.prog 23 [.ptr 1000 0] (rdB t [] [] 0) [] (jL (l.map aInline)) (rdB t els [] refs) [])
  (k : Nat) (hk : k ≤ 1000) (hnb : nbN k l) (hz : szN k l ≤ 32768) (r : AV) (hr : r = if dptN k l ≤ 16 then .tup [.sl (l.map aInline), vI 0] else .tup [.sl [], vI 11]) :
  CallTo Tryz.prog 11 [jS s] [] [] (.av r) [] [] := by
 have hd : decide (((ByteArray.size s : Nat) : Int) > 262144) = false := decide_eq_false (by omega)
 have htr := trmB_to s WSP (by omega) (by decide) (A7.lit (by decide))
 rw [ht] at htr
 have hR4 : CallTo Tryz.prog 23 [.ptr 4 0] (rd4 t [] [] 0) [] (jL (l.map aInline)) (rd4 t els [] refs) [] := castp (by kernel_rfl) (CallTo_ren (swap_inv (4, 0) (1000, 0) rfl) hR)
 have hsz := size_to k l hnb (by omega)
 have w1 := wrE (((1 + szN k l : Nat) : Int) - 1) ((szN k l : Nat) : Int) (by omega)
 have hd2 : decide (((szN k l : Nat) : Int) > 32768) = false := decide_eq_false (by omega)
 have hdp := depth_to k l hk hnb
 have hu1 : Uni 11 [blk1 l] := uni_one rfl rfl
 by_cases h16 : dptN k l ≤ 16
 ·rw [if_pos h16] at hr
  subst hr
  have hd3 : decide (((dptN k l : Nat) : Int) > 16) = false := decide_eq_false (by omega)
  refine bG Tryz.func11 ?_
  refine GO (tn 5 (kb hd (kq 3 z))) (by kernel_rfl) ?_
  refine NXW (rdP t) (kq 4 z) (by kernel_rfl) ?_ (by kernel_rfl) ?_
  ·refine W_weak (S' := sx 24 [(0, jS s)] [] []) (WK (by kernel_rfl)) ?_
   exact W_code (c' := .region 3 (regOps 3 Tryz.f11) false) (by kernel_rfl) (pa3 s t hs ht)
  refine TELLB 4 1 2001 107 21 (by kernel_rfl) ?_
  refine TELLB 4 2 2002 3 1 (by kernel_rfl) ?_
  refine GHOST (S' := sx 24 [(4, .ptr 4 0)] (rd4 t [] [] 0) []) (ghost_weak (WK (by kernel_rfl))) ?_
  refine GO (kg hR4 trivial (tn 3 (kp hu1 (tn 1 (kc hsz (kn w1 (tn 1 (kb hd2 (tn 1 (kc hdp (tn 1 (kb hd3 (tn 3 z))))))))))))) (by kernel_rfl) ?_
  exact eN
 ·rw [if_neg h16] at hr
  subst hr
  have hd3 : decide (((dptN k l : Nat) : Int) > 16) = true := decide_eq_true (by omega)
  refine bG Tryz.func11 ?_
  refine GO (tn 5 (kb hd (kq 3 z))) (by kernel_rfl) ?_
  refine NXW (rdP t) (kq 4 z) (by kernel_rfl) ?_ (by kernel_rfl) ?_
  ·refine W_weak (S' := sx 24 [(0, jS s)] [] []) (WK (by kernel_rfl)) ?_
   exact W_code (c' := .region 3 (regOps 3 Tryz.f11) false) (by kernel_rfl) (pa3 s t hs ht)
  refine TELLB 4 1 2001 107 21 (by kernel_rfl) ?_
  refine TELLB 4 2 2002 3 1 (by kernel_rfl) ?_
  refine GHOST (S' := sx 24 [(4, .ptr 4 0)] (rd4 t [] [] 0) []) (ghost_weak (WK (by kernel_rfl))) ?_
  refine GO (kg hR4 trivial (tn 3 (kp hu1 (tn 1 (kc hsz (kn w1 (tn 1 (kb hd2 (tn 1 (kc hdp (tn 1 (kb hd3 (tn 2 z))))))))))))) (by kernel_rfl) ?_
  exact eN
end Go.Proofs.YthbpjmogdonlkaaGreatDoor
set_option maxRecDepth 100000
namespace Go.Proofs.YthbpjmogdonlkaaGreatDoor
open Go Go.Eng
def At (s : ByteArray) (i : Nat) (u : List UInt8) : Prop := ∃ a z, s.data.toList = a ++ (u ++ z) ∧ a.length = i
theorem At.size {s : ByteArray} {i : Nat} {u : List UInt8} (h : At s i u) : i + u.length ≤ s.size := by
 obtain ⟨a, z, h, rfl⟩ := h
 have : s.size = s.data.toList.length := by simp
 rw [this, h]; simp
theorem byt_list (s : ByteArray) (i : Nat) : byt s i = (s.data.toList.getD i 0).toNat := by
 unfold byt
 rw [Array.getD_eq_getD_getElem?, List.getD_eq_getElem?_getD, Array.getElem?_toList]
theorem At.byt {s : ByteArray} {i : Nat} {b : UInt8} {u : List UInt8} (h : At s i (b :: u)) : byt s i = b.toNat := by
 obtain ⟨a, z, h, rfl⟩ := h
 rw [byt_list, h]; simp
theorem At.left {s : ByteArray} {i : Nat} {u v : List UInt8} (h : At s i (u ++ v)) : At s i u := by
 obtain ⟨a, z, h, hl⟩ := h
 exact ⟨a, v ++ z, by rw [h, List.append_assoc], hl⟩
theorem At.right {s : ByteArray} {i : Nat} {u v : List UInt8} (h : At s i (u ++ v)) : At s (i + u.length) v := by
 obtain ⟨a, z, h, hl⟩ := h
 exact ⟨a ++ u, z, by rw [h]; simp [List.append_assoc], by simp [hl]⟩
theorem At.tail {s : ByteArray} {i : Nat} {b : UInt8} {u : List UInt8} (h : At s i (b :: u)) : At s (i + 1) u := At.right (u := [b]) h
theorem ext_list (s : ByteArray) (i j : Nat) : (s.extract i j).data.toList = (s.data.toList.drop i).take (j - i) := by simp [List.extract_eq_take_drop]
theorem At.ext {s : ByteArray} {i : Nat} {u : List UInt8} (h : At s i u) : s.extract i (i + u.length) = ⟨u.toArray⟩ := by
 obtain ⟨a, z, h, rfl⟩ := h
 apply ByteArray.ext
 apply Array.toList_inj.1
 rw [ext_list, h]
 rw [show a.length + u.length - a.length = u.length by omega]
 simp
theorem At.rest {s : ByteArray} {i : Nat} {u : List UInt8} (h : At s i u) : ∃ z, (s.extract i s.size).data.toList = u ++ z ∧ ∀ b ∈ z, b ∈ s.data.toList := by
 obtain ⟨a, z, h, rfl⟩ := h
 refine ⟨z, ?_, fun b hb => by rw [h]; simp [hb]⟩
 have e : s.size = s.data.toList.length := by simp
 rw [ext_list, e, h]
 simp only [List.drop_left]
 rw [List.take_of_length_le]
 simp
theorem At.all (s : ByteArray) : At s 0 s.data.toList := ⟨[], [], by simp, rfl⟩
theorem BYi_at {s : ByteArray} {i : Nat} {b : UInt8} {u : List UInt8} (h : At s i (b :: u)) : BYi s ((i : Nat) : Int) = ((b.toNat : Nat) : Int) := by
 unfold BYi
 rw [Int.toNat_natCast, h.byt]
def Let (b : UInt8) : Prop := 97 ≤ b.toNat ∧ b.toNat ≤ 122
def Lets (w : List UInt8) : Prop := ∀ b ∈ w, Let b
theorem letA_let {b : UInt8} (h : Let b) : letA ((b.toNat : Nat) : Int) = true := by
 unfold letA
 rw [show decide (((b.toNat : Nat) : Int) ≥ 97) = true from decide_eq_true (by have := h.1; omega), show decide (((b.toNat : Nat) : Int) ≤ 122) = true from decide_eq_true (by have := h.2; omega)]
 rfl
theorem inN_let {b : UInt8} (h : Let b) : inN ((b.toNat : Nat) : Int) = true := by
 obtain ⟨h1, h2⟩ := h
 unfold inN
 rw [beq_false_of_ne (show ((b.toNat : Nat) : Int) ≠ 45 by omega), beq_false_of_ne (show ((b.toNat : Nat) : Int) ≠ 95 by omega), beq_false_of_ne (show ((b.toNat : Nat) : Int) ≠ 46 by omega), beq_false_of_ne (show ((b.toNat : Nat) : Int) ≠ 58 by omega), letA_let ⟨h1, h2⟩]
 rfl
theorem wrdL (s : ByteArray) (i : Int) (c : UInt8) (hc : inN ((c.toNat : Nat) : Int) = false) : ∀ (w : List UInt8) (v n : Nat), Lets w → At s v (w ++ [c]) → w.length < n → wrdA_L0 s i n ((v : Nat) : Int) = ((v + w.length : Nat) : Int)
 | [], v, n, _, ha, hn => by
  obtain ⟨n, rfl⟩ : ∃ k, n = k + 1 := ⟨n - 1, by simp at hn; omega⟩
  have hs := ha.size
  have hb := ha.byt
  simp only [List.nil_append, List.length_singleton] at hs
  unfold wrdA_L0
  rw [show decide (((v : Nat) : Int) < ((ByteArray.size s : Nat) : Int)) = true from decide_eq_true (by omega), Int.toNat_natCast, hb, hc]
  rfl
 | b :: w, v, n, hL, ha, hn => by
  obtain ⟨n, rfl⟩ : ∃ k, n = k + 1 := ⟨n - 1, by simp at hn; omega⟩
  have hs := ha.size
  have hb := ha.byt
  simp only [List.cons_append, List.length_cons] at hs hn
  have ih := wrdL s i c hc w (v + 1) n (fun x hx => hL x (by simp [hx])) ha.tail (by omega)
  unfold wrdA_L0
  rw [show decide (((v : Nat) : Int) < ((ByteArray.size s : Nat) : Int)) = true from decide_eq_true (by omega), Int.toNat_natCast, hb, inN_let (hL b (by simp))]
  rw [show ((v : Nat) : Int) + 1 = ((v + 1 : Nat) : Int) by omega]
  simp only [cond_true, List.length_cons]
  rw [ih]
  congr 1; omega
theorem wrd_at {s : ByteArray} {i : Nat} {w : List UInt8} {c : UInt8} (hc : inN ((c.toNat : Nat) : Int) = false) (hL : Lets w) (ha : At s i (w ++ [c])) : wrdA s ((i : Nat) : Int) = ((i + w.length : Nat) : Int) := by
 have hs := ha.size
 simp only [List.length_append, List.length_singleton] at hs
 exact wrdL s _ c hc w i _ hL ha (by rw [Int.toNat_natCast]; omega)
theorem wrdE (s : ByteArray) (i : Int) : ∀ (w : List UInt8) (v n : Nat), Lets w → At s v w → v + w.length = s.size → w.length < n → wrdA_L0 s i n ((v : Nat) : Int) = ((v + w.length : Nat) : Int)
 | [], v, n, _, ha, he, hn => by
  obtain ⟨n, rfl⟩ : ∃ k, n = k + 1 := ⟨n - 1, by simp at hn; omega⟩
  simp only [List.length_nil] at he
  unfold wrdA_L0
  rw [show decide (((v : Nat) : Int) < ((ByteArray.size s : Nat) : Int)) = false from decide_eq_false (by omega)]
  rfl
 | b :: w, v, n, hL, ha, he, hn => by
  obtain ⟨n, rfl⟩ : ∃ k, n = k + 1 := ⟨n - 1, by simp at hn; omega⟩
  have hb := ha.byt
  simp only [List.length_cons] at he hn
  have ih := wrdE s i w (v + 1) n (fun x hx => hL x (by simp [hx])) ha.tail (by omega) (by omega)
  unfold wrdA_L0
  rw [show decide (((v : Nat) : Int) < ((ByteArray.size s : Nat) : Int)) = true from decide_eq_true (by omega), Int.toNat_natCast, hb, inN_let (hL b (by simp))]
  rw [show ((v : Nat) : Int) + 1 = ((v + 1 : Nat) : Int) by omega]
  simp only [cond_true, List.length_cons]
  rw [ih]
  congr 1; omega
theorem nam_let {w : List UInt8} (hL : Lets w) (h0 : 0 < w.length) (h1 : w.length ≤ 60) : namA ⟨w.toArray⟩ = true := by
 have ha : At ⟨w.toArray⟩ 0 w := by simpa using At.all ⟨w.toArray⟩
 have hz : (ByteArray.mk w.toArray).size = w.length := rfl
 have e := wrdE ⟨w.toArray⟩ 0 w 0 (((ByteArray.mk w.toArray).size - Int.toNat 0) + 1) hL ha (by simp [hz]) (by simp [hz])
 obtain ⟨b, u, rfl⟩ : ∃ b u, w = b :: u := List.exists_cons_of_length_pos h0
 have hb := ha.byt
 unfold namA
 rw [hz, hb, letA_let (hL b (by simp))]
 rw [beq_false_of_ne (show (((b :: u).length : Nat) : Int) ≠ 0 by omega), show decide ((((b :: u).length : Nat) : Int) > 60) = false from decide_eq_false (by omega)]
 simp only [cond_false, cond_true, Bool.not_true]
 rw [beq_iff_eq]
 unfold wrdA
 simpa using e
end Go.Proofs.YthbpjmogdonlkaaGreatDoor
namespace Go.Proofs.YthbpjmogdonlkaaGreatDoor
open Go Go.Eng
end Go.Proofs.YthbpjmogdonlkaaGreatDoor
namespace Go.Proofs.YthbpjmogdonlkaaGreatDoor
open Go Go.Eng
end Go.Proofs.YthbpjmogdonlkaaGreatDoor
namespace Go.Proofs.YthbpjmogdonlkaaGreatDoor
open Go Go.Eng
end Go.Proofs.YthbpjmogdonlkaaGreatDoor
namespace Go.Proofs.YthbpjmogdonlkaaGreatDoor
open Go Go.Eng
theorem brk0_to (s : ByteArray) (i : Int) (h0 : 0 ≤ i) (h1 : i < s.size) (h2 : BYi s i ≠ 91) : CallTo Tryz.prog 237 [jS s, jI i] [] [] (.av (.tup [vS e0, vI 0, vB false])) [] [] := by
 have hd : decide (i ≥ ((ByteArray.size s : Nat) : Int)) = false := decide_eq_false (by omega)
 have hb : (BYi s i != 91) = true := by rw [bne_iff_ne]; exact h2
 refine bG Tryz.func237 ?_
 refine GO (tn 8 (kb hd (tn 1 (kb hd (tn 1 (kb hd (kp (ib s i ⟨h0, h1⟩) (kb hd (tn 1 (kb hd (kb hb (tn 3 z)))))))))))) (by kernel_rfl) ?_
 exact eN
end Go.Proofs.YthbpjmogdonlkaaGreatDoor
namespace Go.Proofs.YthbpjmogdonlkaaGreatDoor
open Go Go.Eng
def tupT (d t l : ByteArray) (to : Int) (ok : Bool) : SV := .av (.tup [vS d, vS t, vS l, vI to, vB ok])
theorem tail0_to (s : ByteArray) (i : Int) (h0 : 0 ≤ i) (h1 : i < s.size) (h2 : BYi s i ≠ 40) (h3 : BYi s i ≠ 91) : CallTo Tryz.prog 194 [jS s, jI i] [] [] (tupT e0 e0 e0 0 false) [] [] := by
 have hd1 : decide (i < 0) = false := decide_eq_false (by omega)
 have hd2 : decide (i ≥ ((ByteArray.size s : Nat) : Int)) = false := decide_eq_false (by omega)
 have hb : (BYi s i != 40) = true := by rw [bne_iff_ne]; exact h2
 have hc := brk0_to s i h0 h1 h3
 refine bG Tryz.func194 ?_
 refine GO (tn 8 (kb hd1 (tn 1 (kb hd1 (tn 1 (kb hd1 (tn 1 (kb hd1 (tn 1 (kb hd1 (kb hd2 (tn 2 (kp (ib s i ⟨h0, h1⟩) (tn 1 (kb hb (tn 2 (kc hc (tn 15 z)))))))))))))))))) (by kernel_rfl) ?_
 exact eN
end Go.Proofs.YthbpjmogdonlkaaGreatDoor
namespace Go.Proofs.YthbpjmogdonlkaaGreatDoor
open Go Go.Eng
def idxS_L0 (s : List ByteArray) (v : ByteArray) : Nat → Nat → Int
 | 0, _ => default
 | n0 + 1, v8 => cond (decide (((v8 : Nat) : Int) < ((lenM strAV s : Nat) : Int))) (cond (eqs v (el s v8)) ((v8 : Nat) : Int) (idxS_L0 s v n0 (v8 + 1))) (-1)
def idxS (s : List ByteArray) (v : ByteArray) : Int := idxS_L0 s v ((List.length s - 0) + 1) 0
theorem idxS_to (s : List ByteArray) (v : ByteArray) (hs : s.length ≤ 1073741824) : CallTo Tryz.prog 316 [(jL (s.map strAV)), (jS v)] [] [] (jI (idxS s v)) [] [] := by
 refine BEG (fun r : Int => (jI r)) (idxS s v) Tryz.func316 (by kernel_rfl) ?_
 refine UF (idxS.eq_1 ..) ?_
 refine GO (tn 4 z) (by kernel_rfl) ?_
 refine LP (fun N M S => ∃ v8 : Nat, (List.length s - v8 < N) ∧ M = idxS_L0 s v N v8 ∧ S = (sx 19 [(0, (jL (s.map strAV))), (1, (jS v)), (7, (jI ((lenM strAV s : Nat) : Int))), (8, (jI ((v8 : Nat) : Int)))] [] [])) (by kernel_rfl) ⟨_, by omega, rfl, rfl⟩ (WK (by kernel_rfl)) ?_
 rintro n0 M S ⟨v8, hF0, rfl, rfl⟩
 obtain ⟨n0, rfl⟩ : ∃ k, n0 = k + 1 := ⟨n0 - 1, by omega⟩
 refine UF (idxS_L0.eq_2 ..) ?_
 refine GO (tn 1 z) (by kernel_rfl) ?_
 refine CSd (fun h1p h1 => ?_) (fun h1p h1 => ?_)
 ·have := lenM_eq strAV s
  refine GO (kb h1 (tn 5 (ke (el_strAV s v8 (by first | omega | (simp only [lenM_eq, true_and]; omega))) (tn 2 z)))) (by kernel_rfl) ?_
  refine CS (fun h2 => ?_) (fun h2 => ?_)
  ·refine GO (kb h2 (tn 2 z)) (by kernel_rfl) ?_
   refine OUT z (by kernel_rfl) ?_
   exact EN (by kernel_rfl)
  ·refine GO (kb h2 (kn (wrE (((v8 : Nat) : Int) + 1) ((v8 + 1 : Nat) : Int) (by omega)) (tn 1 z))) (by kernel_rfl) ?_
   exact AG ⟨_, by omega, rfl, rfl⟩ (WK (by kernel_rfl)) (by kernel_rfl) (Nat.lt_succ_self _)
 ·have := lenM_eq strAV s
  refine GO (kb h1 z) (by kernel_rfl) ?_
  refine OUT (tn 1 z) (by kernel_rfl) ?_
  exact EN (by kernel_rfl)
def ctnS (s : List ByteArray) (v : ByteArray) : Bool := decide ((idxS s v : Int) ≥ 0)
theorem ctnS_to (s : List ByteArray) (v : ByteArray) (hs : s.length ≤ 1073741824) : CallTo Tryz.prog 314 [(jL (s.map strAV)), (jS v)] [] [] (jB (ctnS s v)) [] [] := by
 refine BEG (fun r : Bool => (jB r)) (ctnS s v) Tryz.func314 (by kernel_rfl) ?_
 refine UF (ctnS.eq_1 ..) ?_
 refine GO (tn 3 (kc (idxS_to s v (by first | assumption | omega | decide | (simp; done) | (simp; omega))) (tn 2 z))) (by kernel_rfl) ?_
 exact EN (by kernel_rfl)
def hasA (a : DAttr) (c : ByteArray) : Bool := ctnS a.fClasses c
theorem hasA_to (a : DAttr) (c : ByteArray) (ha : wAttr a ≤ 1073741824) : CallTo Tryz.prog 303 [(.av (cAttr a)), (jS c)] [] [] (jB (hasA a c)) [] [] := by
 have hwa := wAttr_eq a
 simp only [wStr] at hwa
 have hw_0 := wl_len (w := wStr) wStr_pos a.fClasses
 have hw_1 := wl_len (w := wPair) wPair_pos a.fPairs
 refine BEG (fun r : Bool => (jB r)) (hasA a c) Tryz.func303 (by kernel_rfl) ?_
 refine UF (hasA.eq_1 ..) ?_
 refine GO (tn 5 (kc (ctnS_to a.fClasses c (by first | assumption | omega | decide | (simp; done) | (simp; omega))) (tn 1 z))) (by kernel_rfl) ?_
 exact EN (by kernel_rfl)
end Go.Proofs.YthbpjmogdonlkaaGreatDoor
namespace Go.Proofs.YthbpjmogdonlkaaGreatDoor
open Go Go.Eng
def kCl : Key := (1301, 10)
def atB (i g : Nat) (cs : List ByteArray) : Nat × ABox := (i, .cells 39 [jS e0, .own kCl g 1 (cs.map strAV), .nil])
theorem okAt (i : Nat) (cs : List ByteArray) (g : Nat) : ∀ p ∈ [atB i g cs], ∀ s ∈ p.2.svs, OkSV [i] [(kCl, g)] s := by
 intro p hp s hs
 simp only [List.mem_cons, List.not_mem_nil, or_false] at hp
 subst hp
 simp only [atB, ABox.svs, List.mem_cons, List.not_mem_nil, or_false] at hs
 rcases hs with rfl | rfl | rfl
 ·simp [OkSV, SV.keys]
 ·simp [OkSV, kCl, List.lookup]
 ·simp [OkSV, SV.keys]
theorem acl_to (y : ByteArray) (g : Nat) : CallTo Tryz.prog 282 [.ptr 1000 0, jS y] [atB 1000 g []] [(kCl, g)] (jI 0) [atB 1000 (g + 1) [y]] [(kCl, g + 1)] := by
 have hh := hasA_to ⟨e0, [], []⟩ y (by decide)
 have hf : hasA ⟨e0, [], []⟩ y = false := rfl
 have hu : Uni 1 [vS y] := uni_one rfl rfl
 have hap : g = g ∧ Uni 1 [vS y] ∧ ((([] : List ByteArray).map strAV).length + ([vS y] : List AV).length) * 16 ≤ 140737488355328 := ⟨rfl, hu, by simp⟩
 refine BEGb (fun _ : Unit => jI 0) () Tryz.func282 (by kernel_rfl) (by simp [atB]) (by simp [kCl]) (by simp [OkSV, SV.keys, atB]) (okAt 1000 [] g) (by simp [OkSV, SV.keys]) (okAt 1000 [y] (g + 1)) rfl rfl ?_ (by simp [atB])
 refine GO (tn 5 (kc hh (kb hf (tn 6 (kb (b := decide ((0 : Int) ≥ 32)) (d := false) rfl (tn 6 (kp hu (kp hap (kw (show ((([] : List ByteArray).map strAV) ++ [vS y] : List AV) = ([y] : List ByteArray).map strAV from rfl) (tn 4 z)))))))))) (by kernel_rfl) ?_
 refine ENb (by kernel_rfl) ?_ ?_
 ·intro p hp
  simp only [List.mem_cons, List.not_mem_nil, or_false] at hp
  subst hp; kernel_rfl
 ·intro p hp
  simp only [List.mem_cons, List.not_mem_nil, or_false] at hp
  subst hp; kernel_rfl
theorem itm_to (s y : ByteArray) (at' to : Int) (g : Nat) (hs : s.size ≤ 1073741824) (h0 : 0 ≤ at') (h1 : at' < s.size) (hb : BYi s at' = 46) (hto : wrdA s (at' + 1) = to) (hto2 : at' + 1 ≤ to ∧ to ≤ s.size) (hy : ByteArray.extract s (Int.toNat (at' + 1)) (Int.toNat to) = y) (hn : namA y = true) (hyz : y.size ≤ 1073741824) :
  CallTo Tryz.prog 243 [.ptr 1000 0, jS s, jI at'] [atB 1000 g []] [(kCl, g)] (.av (.tup [vI to, vI 0])) [atB 1000 (g + 1) [y]] [(kCl, g + 1)] := by
 have hc := acl_to y g
 have e1 : (BYi s at' == 35) = false := by rw [hb]; rfl
 have e2 : cond (BYi s at' == 35) true (BYi s at' == 46) = true := by rw [hb]; rfl
 have e3 : (BYi s at' == 46) = true := by rw [hb]; rfl
 have w1 := wrE (at' + 1) (at' + 1) (by omega)
 have k1 := wrdA_to s (at' + 1) hs (by omega) (by omega)
 rw [hto] at k1
 have k2 := namA_to y hyz
 have hsl : 0 ≤ at' + 1 ∧ at' + 1 ≤ to ∧ to ≤ ((ByteArray.size s : Nat) : Int) := ⟨by omega, hto2.1, hto2.2⟩
 refine BEGb (fun _ : Unit => .av (.tup [vI to, vI 0])) () Tryz.func243 (by kernel_rfl) (by simp [atB]) (by simp [kCl]) (by simp [OkSV, SV.keys, atB]) (okAt 1000 [] g) (by simp [OkSV, SV.keys]) (okAt 1000 [y] (g + 1)) rfl rfl ?_ (by simp [atB])
 subst hy
 refine GO (tn 4 (kp (ib s at' ⟨h0, h1⟩) (tn 4 (kb e1 (tn 1 (kb e1 (tn 1 (kb e1 (kb e3 (tn 1 (kn w1 (tn 3 (kc k1 (tn 4 (kp hsl (tn 2 (kc k2 (tn 1 (kb (b := !namA (ByteArray.extract s (Int.toNat (at' + 1)) (Int.toNat to))) (d := false) (by rw [hn]; rfl) (tn 3 (kb e1 (tn 2 (kb e3 (tn 3 (kg hc (show g = g ∧ True from ⟨rfl, trivial⟩) (tn 2 z)))))))))))))))))))))))))) (by kernel_rfl) ?_
 refine ENb (by kernel_rfl) ?_ ?_
 ·intro p hp
  simp only [List.mem_cons, List.not_mem_nil, or_false] at hp
  subst hp; kernel_rfl
 ·intro p hp
  simp only [List.mem_cons, List.not_mem_nil, or_false] at hp
  subst hp; kernel_rfl
def paB (s : ByteArray) (a : Int) (g : Nat) (cs : List ByteArray) : List (Nat × ABox) := [(1002, .cells 3 [jI a]), atB 1000 g cs, (1001, .cells 9 [jS s])]
theorem okPa (s : ByteArray) (a : Int) (cs : List ByteArray) (g : Nat) : ∀ p ∈ paB s a g cs, ∀ s ∈ p.2.svs, OkSV [1002, 1000, 1001] [(kCl, g)] s := by
 intro p hp s hs
 simp only [paB, List.mem_cons, List.not_mem_nil, or_false] at hp
 rcases hp with rfl | rfl | rfl
 ·simp only [ABox.svs, List.mem_cons, List.not_mem_nil, or_false] at hs; subst hs; simp [OkSV, SV.keys]
 ·simp only [atB, ABox.svs, List.mem_cons, List.not_mem_nil, or_false] at hs
  rcases hs with rfl | rfl | rfl
  ·simp [OkSV, SV.keys]
  ·simp [OkSV, kCl, List.lookup]
  ·simp [OkSV, SV.keys]
 ·simp only [ABox.svs, List.mem_cons, List.not_mem_nil, or_false] at hs; subst hs; simp [OkSV, SV.keys]
theorem itc_to (s y : ByteArray) (at' to : Int) (g : Nat) (hs : s.size ≤ 1073741824) (h0 : 0 ≤ at') (h1 : at' < s.size) (hb : BYi s at' = 46) (hto : wrdA s (at' + 1) = to) (hto2 : at' + 1 ≤ to ∧ to ≤ s.size) (hy : ByteArray.extract s (Int.toNat (at' + 1)) (Int.toNat to) = y) (hn : namA y = true) (hyz : y.size ≤ 1073741824) :
  CallTo Tryz.prog 242 [.ptr 1000 0, .ptr 1001 0, .ptr 1002 0] (paB s at' g []) [(kCl, g)] (jI 0) (paB s to (g + 1) [y]) [(kCl, g + 1)] := by
 have hi := itm_to s y at' to g hs h0 h1 hb hto hto2 hy hn hyz
 refine BEGb (fun _ : Unit => jI 0) () Tryz.func242 (by kernel_rfl) (by simp [paB, atB]) (by simp [kCl]) (by simp [OkSV, SV.keys, paB, atB]) (okPa s at' [] g) (by simp [OkSV, SV.keys]) (okPa s to [y] (g + 1)) rfl rfl ?_ (by simp [paB, atB])
 refine GO (tn 3 (kg hi (show g = g ∧ True from ⟨rfl, trivial⟩) (tn 9 z))) (by kernel_rfl) ?_
 refine ENb (by kernel_rfl) ?_ ?_
 ·intro p hp
  simp only [paB, List.mem_cons, List.not_mem_nil, or_false] at hp
  rcases hp with rfl | rfl | rfl <;> kernel_rfl
 ·intro p hp
  simp only [List.mem_cons, List.not_mem_nil, or_false] at hp
  subst hp; kernel_rfl
def spB (s : ByteArray) (a : Int) : List (Nat × ABox) := [(1002, .cells 3 [jI a]), (1001, .cells 9 [jS s])]
theorem spc_to (s : ByteArray) (a : Int) (h0 : 0 ≤ a) (h1 : a < s.size) (hb : BYi s a ≠ 32) : CallTo Tryz.prog 241 [.ptr 1002 0, .ptr 1001 0] (spB s a) [] (jB false) (spB s a) [] := by
 have hd : decide (a < ((ByteArray.size s : Nat) : Int)) = true := decide_eq_true (by omega)
 have hn : (BYi s a == 32) = false := beq_false_of_ne hb
 have h : CallTo Tryz.prog 241 [.ptr 1002 0, .ptr 1001 0] (spB s a) [] (jB (decide (a > a))) (spB s a) [] := by
  refine bGs Tryz.func241 ?_
  refine GO (tn 3 z) (by kernel_rfl) ?_
  refine uN (sx 20 [(0, .ptr 1002 0), (1, .ptr 1001 0), (3, jI a)] (spB s a) []) 1 ?_
  refine GO (tn 5 (kb hd (tn 1 (kb hd (tn 1 (kb hd (kp (ib s a ⟨h0, h1⟩) (kb hd (tn 1 (kb hd (kb hn z))))))))))) (by kernel_rfl) ?_
  refine uO (tn 4 z) ?_
  exact eNs
 rwa [show decide (a > a) = false from decide_eq_false (by omega)] at h
def paL (s : ByteArray) (a : Int) (g : Nat) (cs : List ByteArray) : List (Nat × ABox) := [(8, .cells 3 [jI a]), atB 7 g cs, (4, .cells 39 [jS e0, .nil, .nil]), (2, .cells 9 [jS s])]
def paS (s : ByteArray) (a : Int) (g : Nat) (cs : List ByteArray) (b : Bool) : St := sx 57 [(2, .ptr 2 0), (4, .ptr 4 0), (7, .ptr 7 0), (8, .ptr 8 0), (9, .fn 241 [] [.ptr 8 0, .ptr 2 0]), (10, .fn 242 [] [.ptr 7 0, .ptr 2 0, .ptr 8 0]), (11, jB b)] (paL s a g cs) [(kCl, g)]
theorem par1_to (s y : ByteArray) (i to : Int) (hs : s.size ≤ 1073741824) (h0 : 0 ≤ i) (hb0 : BYi s i = 123) (hb : BYi s (i + 1) = 46) (hto : wrdA s (i + 2) = to) (hto2 : i + 2 ≤ to ∧ to < s.size) (hbt : BYi s to = 125) (hy : ByteArray.extract s (Int.toNat (i + 2)) (Int.toNat to) = y) (hn : namA y = true) (hyz : y.size ≤ 1073741824) :
  CallTo Tryz.prog 195 [jS s, jI i] [] [] (.av (.tup [cAttr ⟨e0, [y], []⟩, vI (to + 1), vI 0])) [] [] := by
 have i2 : i + 1 + 1 = i + 2 := by omega
 have k1 : CallTo Tryz.prog 241 [.ptr 8 0, .ptr 2 0] [(8, .cells 3 [jI (i + 1)]), (2, .cells 9 [jS s])] [] (jB false) [(8, .cells 3 [jI (i + 1)]), (2, .cells 9 [jS s])] [] := castp (by kernel_rfl) (CallTo_ren (swap_inv (8, 0) (1002, 0) rfl) (CallTo_ren (swap_inv (2, 0) (1001, 0) rfl) (spc_to s (i + 1) (by omega) (by omega) (by rw [hb]; decide))))
 have k3 : CallTo Tryz.prog 241 [.ptr 8 0, .ptr 2 0] [(8, .cells 3 [jI to]), (2, .cells 9 [jS s])] [] (jB false) [(8, .cells 3 [jI to]), (2, .cells 9 [jS s])] [] := castp (by kernel_rfl) (CallTo_ren (swap_inv (8, 0) (1002, 0) rfl) (CallTo_ren (swap_inv (2, 0) (1001, 0) rfl) (spc_to s to (by omega) (by omega) (by rw [hbt]; decide))))
 have k2 : CallTo Tryz.prog 242 [.ptr 7 0, .ptr 2 0, .ptr 8 0] [(8, .cells 3 [jI (i + 1)]), atB 7 0 [], (2, .cells 9 [jS s])] [(kCl, 0)] (jI 0) [(8, .cells 3 [jI to]), atB 7 (0 + 1) [y], (2, .cells 9 [jS s])] [(kCl, 0 + 1)] := castp (by kernel_rfl) (CallTo_ren (swap_inv (7, 0) (1000, 0) rfl) (CallTo_ren (swap_inv (8, 0) (1002, 0) rfl) (CallTo_ren (swap_inv (2, 0) (1001, 0) rfl) (itc_to s y (i + 1) to 0 hs (by omega) (by omega) hb (by rw [i2]; exact hto) (by omega) (by rw [i2]; exact hy) hn hyz))))
 have d1 : decide (i < 0) = false := decide_eq_false (by omega)
 have d2 : decide (i ≥ ((ByteArray.size s : Nat) : Int)) = false := decide_eq_false (by omega)
 have d3 : (BYi s i != 123) = false := by rw [hb0]; rfl
 have d4 : decide (i + 1 ≥ ((ByteArray.size s : Nat) : Int)) = false := decide_eq_false (by omega)
 have d5 : (BYi s (i + 1) == 125) = false := by rw [hb]; rfl
 have d6 : decide (to ≥ ((ByteArray.size s : Nat) : Int)) = false := decide_eq_false (by omega)
 have d7 : (BYi s to == 125) = true := by rw [hbt]; rfl
 have w1 := wrE (i + 1) (i + 1) (by omega)
 have w2 := wrE (to + 1) (to + 1) (by omega)
 refine bG Tryz.func195 ?_
 refine GO (tn 7 (kb d1 (tn 1 (kb d1 (tn 1 (kb d1 (tn 1 (kb d1 (tn 1 (kb d1 (tn 1 (kb d2 (tn 1 (kb d2 (tn 1 (kb d2 (kp (ib s i ⟨h0, by omega⟩) (kb d2 (tn 1 (kb d2 (kb d3 (tn 2 (kn w1 (tn 6 (kq 7 z))))))))))))))))))))))))) (by kernel_rfl) ?_
 refine RT [(7, 1, .own kCl 0 1 (([] : List ByteArray).map strAV))] (ac (show ([] : List AV) = [] ∧ 0 < 10 ∧ (0 : Nat) = 0 from ⟨rfl, by decide, rfl⟩) an) (by kernel_rfl) ?_
 refine GO (tn 1 (kg k1 trivial (tn 1 z))) (by kernel_rfl) ?_
 refine uN (paS s (i + 1) 0 [] true) 2 ?_
 refine GO (tn 4 (kb d4 (tn 2 (kp (ib s (i + 1) ⟨by omega, by omega⟩) (tn 1 (kb d5 (tn 2 (kb (b := !true) (d := false) rfl (tn 1 (kg k2 (show (0 : Nat) = 0 ∧ True from ⟨rfl, trivial⟩) (tn 3 (kb (b := ((0 : Int) != 0)) (d := false) rfl (tn 1 (kg k3 trivial (tn 1 z))))))))))))))) (by kernel_rfl) ?_
 refine uA (paS s to 1 [y] false) ?_
 refine GO (tn 4 (kb d6 (tn 2 (kp (ib s to ⟨by omega, by omega⟩) (tn 1 (kb d7 z)))))) (by kernel_rfl) ?_
 refine DR3 (tn 3 (kn w2 (kp w2 (tn 3 z)))) (by kernel_rfl) (by kernel_rfl) (by kernel_rfl) ?_
 refine uO z ?_
 exact eN
end Go.Proofs.YthbpjmogdonlkaaGreatDoor
namespace Go.Proofs.YthbpjmogdonlkaaGreatDoor
open Go Go.Eng
def eEMP : ByteArray := ⟨#[123, 61, 101, 109, 112, 104, 125]⟩
def eSTG : ByteArray := ⟨#[123, 61, 115, 116, 114, 111, 110, 103, 125]⟩
def eSTK : ByteArray := ⟨#[123, 61, 115, 116, 114, 105, 107, 101, 125]⟩
def ephR (t : ByteArray) (i : Int) : ByteArray := ByteArray.extract t (Int.toNat i) (ByteArray.size t)
def ephI (t : ByteArray) (i : Int) : Int × Int := cond (hpxB (ephR t i) eEMP) (6, i + 7) (cond (hpxB (ephR t i) eSTG) (7, i + 9) (cond (hpxB (ephR t i) eSTK) (8, i + 9) (0, 0)))
def ephS (t : ByteArray) (i : Int) (k : Int) : St := sx 29 [(0, jS t), (1, jI i), (9, .av (.agg [vI 6, vI 7, vI 8])), (10, jI k)] [] []
theorem eph_to (t : ByteArray) (i : Int) (ht : t.size ≤ 1073741824) (hi : 0 ≤ i ∧ i ≤ t.size) : CallTo Tryz.prog 196 [jS t, jI i] [] [] (.av (.tup [vI (ephI t i).1, vI (ephI t i).2])) [] [] := by
 have hs : 0 ≤ i ∧ i ≤ ((ByteArray.size t : Nat) : Int) ∧ ((ByteArray.size t : Nat) : Int) ≤ ((ByteArray.size t : Nat) : Int) := ⟨hi.1, hi.2, Int.le_refl _⟩
 refine BEG (fun r : Int × Int => .av (.tup [vI r.1, vI r.2])) (ephI t i) Tryz.func196 (by kernel_rfl) ?_
 refine UF (ephI.eq_1 ..) ?_
 refine GO (tn 4 z) (by kernel_rfl) ?_
 refine UN (ephS t i 0) 4 (by kernel_rfl) (WK (by kernel_rfl)) ?_
 refine GO (tn 1 (kb tt (kp (show 0 ≤ (0 : Int) ∧ (0 : Int) < (3 : Nat) ∧ (0 : Int).toNat * 1 + 1 ≤ ([vI 6, vI 7, vI 8] : List AV).length ∧ 0 < 1 by decide) (tn 5 (kb ff (tn 2 (kb ff (tn 2 (kp hs (tn 1 (kc (hpxB_to (ephR t i) eEMP) z))))))))))) (by kernel_rfl) ?_
 refine CS (fun h0 => ?_) (fun h0 => ?_)
 ·refine GO (kb h0 (tn 4 (kn (wrE (i + 7) (i + 7) (by omega)) (tn 2 z)))) (by kernel_rfl) ?_
  refine UO z (by kernel_rfl) ?_
  exact EN (by kernel_rfl)
 ·refine GO (kb h0 (kn (wrE ((0 : Int) + 1) 1 (by omega)) (tn 1 z))) (by kernel_rfl) ?_
  refine UA (ephS t i 1) (by kernel_rfl) (WK (by kernel_rfl)) ?_
  refine GO (tn 1 (kb tt (kp (show 0 ≤ (1 : Int) ∧ (1 : Int) < (3 : Nat) ∧ (1 : Int).toNat * 1 + 1 ≤ ([vI 6, vI 7, vI 8] : List AV).length ∧ 0 < 1 by decide) (tn 5 (kb tt (tn 3 (kp hs (tn 1 (kc (hpxB_to (ephR t i) eSTG) z))))))))) (by kernel_rfl) ?_
  refine CS (fun h1 => ?_) (fun h1 => ?_)
  ·refine GO (kb h1 (tn 4 (kn (wrE (i + 9) (i + 9) (by omega)) (tn 2 z)))) (by kernel_rfl) ?_
   refine UO z (by kernel_rfl) ?_
   exact EN (by kernel_rfl)
  ·refine GO (kb h1 (kn (wrE ((1 : Int) + 1) 2 (by omega)) (tn 1 z))) (by kernel_rfl) ?_
   refine UA (ephS t i 2) (by kernel_rfl) (WK (by kernel_rfl)) ?_
   refine GO (tn 1 (kb tt (kp (show 0 ≤ (2 : Int) ∧ (2 : Int) < (3 : Nat) ∧ (2 : Int).toNat * 1 + 1 ≤ ([vI 6, vI 7, vI 8] : List AV).length ∧ 0 < 1 by decide) (tn 5 (kb ff (tn 2 (kb tt (tn 3 (kp hs (tn 1 (kc (hpxB_to (ephR t i) eSTK) z))))))))))) (by kernel_rfl) ?_
   refine CS (fun h2 => ?_) (fun h2 => ?_)
   ·refine GO (kb h2 (tn 4 (kn (wrE (i + 9) (i + 9) (by omega)) (tn 2 z)))) (by kernel_rfl) ?_
    refine UO z (by kernel_rfl) ?_
    exact EN (by kernel_rfl)
   ·refine GO (kb h2 (kn (wrE ((2 : Int) + 1) 3 (by omega)) (tn 1 z))) (by kernel_rfl) ?_
    refine UA (ephS t i 3) (by kernel_rfl) (WK (by kernel_rfl)) ?_
    refine GO (tn 1 (kb ff z)) (by kernel_rfl) ?_
    refine UO (tn 2 z) (by kernel_rfl) ?_
    exact EN (by kernel_rfl)
end Go.Proofs.YthbpjmogdonlkaaGreatDoor
namespace Go.Proofs.YthbpjmogdonlkaaGreatDoor
open Go Go.Eng
def bkB (s : ByteArray) (els : List DElem) (brs : List Int) (refs : Int) : List (Nat × ABox) := [(1000, .cells 52 [jS s, .vs 1001 els.length, .vs 1003 brs.length, jI refs]), (1001, elB els), (1003, brB brs)]
def mkI (k : Int) (t d ti : ByteArray) (a : DAttr) (ks : List DInline) : DInline := DInline.mk k t d ti a [] [] ks
theorem ren_bk {s : ByteArray} {els : List DElem} {brs : List Int} {refs : Int} {b : DElem} {o : Nat} {i : Int} {r : DInline × Int × Bool}
  (h : CallTo Tryz.prog 145 [.ptr 1000 0, .av (cElem b), .vw 1001 21 o (els.length - o), jI i] (bkB s els brs refs) [] (.av (.tup [cInline r.1, vI r.2.1, vB r.2.2])) (kept (bkB s els brs refs)) []) : BrkTo s els brs refs b o i r :=
 castp (by kernel_rfl) (CallTo_ren (swap_inv (1001, 0) (2001, 0) rfl) (CallTo_ren (swap_inv (1003, 0) (2002, 0) rfl) h))
theorem brkS_to (s : ByteArray) (els : List DElem) (brs : List Int) (refs : Int) (b : DElem) (o : Nat) (i : Int) (a : DAttr) (e e2 : Int) (hT : CallTo Tryz.prog 194 [jS s, jI i] [] [] (tupT e0 e0 e0 0 false) [] []) (hi : b.fimage = false) (hE : CallTo Tryz.prog 196 [jS s, jI i] [] [] (.av (.tup [vI 0, vI e2])) [] [])
  (hA : CallTo Tryz.prog 195 [jS s, jI i] [] [] (.av (.tup [cAttr a, vI e, vI 0])) [] []) (hEm : CallTo Tryz.prog 118 [.av (cAttr a)] [] [] (jB false) [] [])
  (he : els.length ≤ 536870912) (ho : o ≤ els.length) (hN : NsOk els o (els.length - o)) : BrkTo s els brs refs b o i (mkI 11 e0 e0 e0 a (nstM els o (els.length - o)), e, true) := by
 refine ren_bk ?_
 have hn := nes_to els o (els.length - o) (by omega) he hN
 refine BEGv (fun _ : Unit => .av (.tup [cInline (mkI 11 e0 e0 e0 a (nstM els o (els.length - o))), vI e, vB true])) (fun _ => bkB s els brs refs) (fun _ => []) () Tryz.func145 (by kernel_rfl) ?_
 refine GO (tn 9 (kc hT (tn 12 (kb (b := false) (d := false) rfl (tn 2 (kb hi (tn 5 (kc hE (tn 7 (kb (b := ((0 : Int) != 0)) (d := false) rfl (tn 5 (kc hA (tn 11 (kb (b := ((0 : Int) != 0)) (d := false) rfl (tn 1 (kb (b := ((0 : Int) != 0)) (d := false) rfl (kc hEm (kb (b := ((0 : Int) != 0)) (d := false) rfl (kb (b := false) (d := false) rfl z))))))))))))))))))) (by kernel_rfl) ?_
 refine DR3 (tn 2 (ko (cO hn) (kp hn (tn 7 z)))) (by kernel_rfl) (by kernel_rfl) (by kernel_rfl) ?_
 exact ENk (by kernel_rfl) (by kernel_rfl) (by kernel_rfl)
end Go.Proofs.YthbpjmogdonlkaaGreatDoor
set_option maxRecDepth 100000
namespace Go.Proofs.YthbpjmogdonlkaaGreatDoor
open Go Go.Eng
theorem hpx_no {s : ByteArray} {i : Nat} {a b : UInt8} {u : List UInt8} {p : ByteArray} {c d : UInt8} {q : List UInt8} (ha : At s i (a :: b :: u)) (hp : p.data.toList = c :: d :: q) (h : b ≠ d) : hpxB (s.extract i s.size) p = false := by
 obtain ⟨z, hz, _⟩ := ha.rest
 unfold hpxB Lib.hasPrefix
 rw [hz, hp]
 cases hh : List.isPrefixOf (c :: d :: q) (a :: b :: u ++ z) with
 | false => rfl
 | true =>
  rw [List.isPrefixOf_iff_prefix] at hh
  obtain ⟨t, ht⟩ := hh
  simp only [List.cons_append, List.cons.injEq] at ht
  exact absurd ht.2.1.symm h
theorem eph_no {s : ByteArray} {i : Nat} {u : List UInt8} (ha : At s i (123 :: 46 :: u)) : ephI s ((i : Nat) : Int) = (0, 0) := by
 unfold ephI ephR
 rw [Int.toNat_natCast, hpx_no ha (p := eEMP) rfl (by decide), hpx_no ha (p := eSTG) rfl (by decide), hpx_no ha (p := eSTK) rfl (by decide)]
 rfl
theorem trm_id {l : List UInt8} (h1 : ∀ b, l.head? = some b → b ≠ 32 ∧ b ≠ 10) (h2 : ∀ b, l.getLast? = some b → b ≠ 32 ∧ b ≠ 10) : trmB ⟨l.toArray⟩ WSP = ⟨l.toArray⟩ := by
 have hc : ∀ b : UInt8, b ≠ 32 ∧ b ≠ 10 → (WSP.data.toList.contains b) = false := by
  rintro b ⟨q1, q2⟩
  show List.contains [32, 10] b = false
  simp [q1, q2]
 unfold trmB Lib.trimS
 have e : (ByteArray.mk l.toArray).data.toList = l := by simp
 rw [e]
 have er : Lib.trimRightS l WSP.data.toList = l := by
  unfold Lib.trimRightS
  cases hr : l.reverse with
  | nil => simpa using hr.symm
  | cons b q =>
   have hb : l.getLast? = some b := by rw [← List.head?_reverse, hr]; rfl
   rw [List.dropWhile_cons, hc b (h2 b hb)]
   have : l = (b :: q).reverse := by rw [← hr, List.reverse_reverse]
   rw [this]; simp
 rw [er]
 unfold Lib.trimLeftS
 cases hl : l with
 | nil => rfl
 | cons b q =>
  rw [List.dropWhile_cons, hc b (h1 b (by rw [hl]; rfl))]
  rfl
end Go.Proofs.YthbpjmogdonlkaaGreatDoor
set_option maxRecDepth 100000
namespace Go.Proofs.YthbpjmogdonlkaaGreatDoor
open Go Go.Eng
theorem el_app {α : Type} [Inhabited α] (pre c : List α) (v : Nat) : el (pre ++ c) (pre.length + v) = el c v := by
 unfold el
 rw [List.getElem?_append_right (by omega), Nat.add_sub_cancel_left]
theorem pcsN_pre (pre c : List DElem) (m : Nat) : pcsN (pre ++ c) pre.length m = pcsN c 0 m := by
 unfold pcsN
 congr 1
 funext v
 rw [el_app, Nat.zero_add]
theorem NsOk.pre {c : List DElem} {m : Nat} (h : NsOk c 0 m) (pre : List DElem) : NsOk (pre ++ c) pre.length m := by
 refine ⟨fun v hv => ?_, ?_, ?_⟩
 ·rw [el_app]
  have := h.one v hv
  rwa [Nat.zero_add] at this
 ·rw [pcsN_pre]; exact h.mg
 ·rw [pcsN_pre]; exact h.rs
theorem nstM_pre (pre c : List DElem) (m : Nat) : nstM (pre ++ c) pre.length m = nstM c 0 m := by
 unfold nstM
 rw [pcsN_pre]
 congr 1
 funext x
 unfold rst
 rw [el_app, Nat.zero_add]
def rdW (w : List UInt8) : List DElem := w.map (fun b => inE (txI ⟨#[b]⟩))
theorem el_map {α β : Type} [Inhabited α] [Inhabited β] (f : α → β) (l : List α) (v : Nat) (h : v < l.length) : el (l.map f) v = f (el l v) := by
 unfold el
 rw [List.getElem?_map, List.getElem?_eq_getElem h]; rfl
theorem map_el {α β : Type} [Inhabited α] (f : Nat → α → β) (l : List α) : (List.range l.length).map (fun v => f v (el l v)) = l.mapIdx f := by
 apply List.ext_getElem
 ·simp
 ·intro i h1 h2
  simp only [List.getElem_map, List.getElem_range, List.getElem_mapIdx]
  simp only [List.length_map, List.length_range] at h1
  congr 1
  simp [el, h1]
theorem range_el {α β : Type} [Inhabited α] (f : α → β) (l : List α) : (List.range l.length).map (fun v => f (el l v)) = l.map f := by
 rw [map_el (fun _ => f) l]
 apply List.ext_getElem
 ·simp
 ·intro i h1 h2
  simp
theorem keeps_W (w : List UInt8) : keeps (pcsN (rdW w) 0 w.length) = w.map (fun b => txI ⟨#[b]⟩) := by
 have e : pcsN (rdW w) 0 w.length = w.map (fun b => (inE (txI ⟨#[b]⟩)).fpiece) := by
  rw [← range_el (fun b => (inE (txI ⟨#[b]⟩)).fpiece) w]
  unfold pcsN
  apply List.map_congr_left
  intro v hv
  rw [List.mem_range] at hv
  rw [Nat.zero_add]
  unfold rdW
  rw [el_map _ _ _ hv]
  rfl
 unfold keeps
 rw [e, List.map_map]
 show List.filter keepI (w.map (fun b => txI ⟨#[b]⟩)) = _
 rw [List.filter_eq_self]
 intro x hx
 obtain ⟨b, _, rfl⟩ := List.mem_map.1 hx
 rfl
theorem cat_W (w : List UInt8) : catT (w.map (fun b => txI ⟨#[b]⟩)) = ⟨w.toArray⟩ := by
 induction w with
 | nil => rfl
 | cons b w ih =>
  simp only [List.map_cons, catT, ih]
  apply ByteArray.ext
  apply Array.toList_inj.1
  simp [txI]
theorem mgL_W (w : List UInt8) (h0 : 0 < w.length) : mgL (w.map (fun b => txI ⟨#[b]⟩)) = [txI ⟨w.toArray⟩] := by
 obtain ⟨b, u, rfl⟩ : ∃ b u, w = b :: u := List.exists_cons_of_length_pos h0
 have h := mg_run [] (fun _ _ h => by cases h) (u.map (fun b => txI ⟨#[b]⟩)) (txI ⟨#[b]⟩) rfl (fun y hy => by
  obtain ⟨c, _, rfl⟩ := List.mem_map.1 hy; rfl)
 rw [List.append_nil] at h
 rw [List.map_cons, h]
 have e : (txI ⟨#[b]⟩).fText ++ catT (u.map (fun b => txI ⟨#[b]⟩)) = catT ((b :: u).map (fun b => txI ⟨#[b]⟩)) := rfl
 rw [e, cat_W]
 rfl
theorem nst_W (w : List UInt8) (h0 : 0 < w.length) (h1 : w.length ≤ 1048576) : NsOk (rdW w) 0 w.length ∧ nstM (rdW w) 0 w.length = [txI ⟨w.toArray⟩] := by
 refine ⟨⟨fun v hv => ?_, ⟨?_, ?_, ?_⟩, ?_⟩, ?_⟩
 ·rw [Nat.zero_add]
  unfold rdW
  rw [el_map _ _ _ hv]
  exact ⟨rfl, rfl, fun h => absurd rfl h⟩
 ·rw [keeps_W, List.length_map]; omega
 ·rw [keeps_W, cat_W]
  show w.length ≤ _
  omega
 ·rw [keeps_W]
  intro x hx
  obtain ⟨b, _, rfl⟩ := List.mem_map.1 hx
  exact ⟨rfl, by show wAttr ⟨⟨#[]⟩, [], []⟩ ≤ 1073741824; decide, Nat.zero_le _, Nat.zero_le _, fun _ => by show 0 < (1 : Nat); decide⟩
 ·rw [keeps_W, mgL_W w h0]
  intro x hx
  rw [List.mem_singleton] at hx
  subst hx
  exact .inr ⟨(show (1 : Int) ≠ -1 by decide), rfl⟩
 ·unfold nstM
  rw [keeps_W, mgL_W w h0]
  rfl
theorem rsI_ph (k : Nat) (h : k < 100) : rsI (phI k) = k := by
 unfold rsI phI itoa
 simp only [(atoi_itoa k h).1]
 rfl
theorem keeps_K (xs : List DInline) (hx : ∀ x ∈ xs, x.fKids ≠ []) : keeps (pcsN (xs.map inE) 0 xs.length) = (List.range xs.length).map phI := by
 have e : pcsN (xs.map inE) 0 xs.length = (List.range xs.length).map (fun v => { (inE (el xs v)).fpiece with fInline := phI v }) := by
  unfold pcsN
  apply List.map_congr_left
  intro v hv
  rw [List.mem_range] at hv
  rw [Nat.zero_add, el_map _ _ _ hv]
  unfold pcE
  rw [if_neg]
  intro h
  have := hx _ (el_mem hv)
  exact this (List.length_eq_zero_iff.1 h)
 unfold keeps
 rw [e, List.map_map]
 show List.filter keepI ((List.range xs.length).map phI) = _
 rw [List.filter_eq_self]
 intro x hx
 obtain ⟨b, _, rfl⟩ := List.mem_map.1 hx
 rfl
theorem mgL_K (f : Nat → DInline) (hf : ∀ k, (f k).fKind ≠ 1) (l : List Nat) : mgL (l.map f) = l.map f := by
 induction l with
 | nil => rfl
 | cons k l ih =>
  simp only [List.map_cons, mgL, ih]
  exact mgc_n (hf k)
theorem cat_ph (l : List Nat) (hl : ∀ k ∈ l, k < 100) : (catT (l.map phI)).size ≤ 18 * l.length := by
 induction l with
 | nil => exact Nat.le_refl _
 | cons k l ih =>
  have h := (atoi_itoa k (hl k (by simp))).2
  have := ih (fun x hx => hl x (by simp [hx]))
  have e : (itoa k).size = (Lib.decDigits k).length := by unfold itoa; exact List.size_toArray
  simp only [List.map_cons, catT, ByteArray.size_append, List.length_cons]
  have e2 : (phI k).fText.size = (itoa k).size := rfl
  omega
theorem nst_K (xs : List DInline) (hx : ∀ x ∈ xs, x.fKids ≠ []) (hn : xs.length ≤ 100) : NsOk (xs.map inE) 0 xs.length ∧ nstM (xs.map inE) 0 xs.length = xs := by
 have hk := keeps_K xs hx
 have hm := mgL_K phI (fun _ => show (-1 : Int) ≠ 1 by decide) (List.range xs.length)
 refine ⟨⟨fun v hv => ?_, ⟨?_, ?_, ?_⟩, ?_⟩, ?_⟩
 ·rw [Nat.zero_add, el_map _ _ _ hv]
  exact ⟨rfl, rfl, fun _ => by omega⟩
 ·rw [hk, List.length_map, List.length_range]; omega
 ·rw [hk]
  have := cat_ph (List.range xs.length) (fun k hk => by have := List.mem_range.1 hk; omega)
  rw [List.length_range] at this
  omega
 ·rw [hk]
  intro x hx
  obtain ⟨b, hb, rfl⟩ := List.mem_map.1 hx
  exact ⟨rfl, by show wAttr ⟨⟨#[]⟩, [], []⟩ ≤ 1073741824; decide, Nat.zero_le _, Nat.zero_le _, fun h => by exact absurd h (show (-1 : Int) ≠ 1 by decide)⟩
 ·rw [hk, hm]
  intro x hx
  obtain ⟨b, hb, rfl⟩ := List.mem_map.1 hx
  have hb := List.mem_range.1 hb
  rw [rsI_ph b (by omega)]
  exact .inl ⟨rfl, by omega, hb, rfl⟩
 ·unfold nstM
  rw [hk, hm, List.map_map]
  apply List.ext_getElem
  ·simp
  ·intro i h1 h2
   simp only [List.getElem_map, List.getElem_range, Function.comp]
   unfold rst
   rw [if_pos (show (phI i).fKind = -1 from rfl), rsI_ph i (by omega), Nat.zero_add, el_map _ _ _ h2]
   show el xs i = _
   simp [el, h2]
end Go.Proofs.YthbpjmogdonlkaaGreatDoor
set_option maxRecDepth 100000
namespace Go.Proofs.YthbpjmogdonlkaaGreatDoor
open Go Go.Eng
structure Nt (s : ByteArray) : Prop where
 sz : s.size ≤ 262144
 a7 : A7 s
 noc : NoC s
 nob : NoT s
theorem pce_let {s : ByteArray} {i : Nat} {b : UInt8} {u : List UInt8} (ha : At s i (b :: u)) (hL : Let b) : pceP s ((i : Nat) : Int) = (litP s ((i : Nat) : Int) (((i : Nat) : Int) + 1), true) := by
 have hb := ha.byt
 obtain ⟨q1, q2⟩ := hL
 unfold pceP
 simp only [Int.toNat_natCast, hb]
 rw [beq_false_of_ne (show ((b.toNat : Nat) : Int) ≠ 92 by omega), beq_false_of_ne (show ((b.toNat : Nat) : Int) ≠ 32 by omega), beq_false_of_ne (show ((b.toNat : Nat) : Int) ≠ 10 by omega), beq_false_of_ne (show ((b.toNat : Nat) : Int) ≠ 38 by omega), beq_false_of_ne (show ((b.toNat : Nat) : Int) ≠ 36 by omega), beq_false_of_ne (show ((b.toNat : Nat) : Int) ≠ 96 by omega), beq_false_of_ne (show ((b.toNat : Nat) : Int) ≠ 60 by omega), beq_false_of_ne (show ((b.toNat : Nat) : Int) ≠ 123 by omega), beq_false_of_ne (show ((b.toNat : Nat) : Int) ≠ 91 by omega), beq_false_of_ne (show ((b.toNat : Nat) : Int) ≠ 33 by omega), beq_false_of_ne (show ((b.toNat : Nat) : Int) ≠ 93 by omega), beq_false_of_ne (show ((b.toNat : Nat) : Int) ≠ 42 by omega), beq_false_of_ne (show ((b.toNat : Nat) : Int) ≠ 95 by omega), beq_false_of_ne (show ((b.toNat : Nat) : Int) ≠ 126 by omega)]
 rfl
theorem nmd_no {s : ByteArray} {i : Nat} {b : UInt8} {u : List UInt8} (ha : At s i (91 :: b :: u)) (h1 : b.toNat ≠ 94) (h2 : b.toNat ≠ 35) : (nmdP s ((i : Nat) : Int)).2 = 0 := by
 have hb := ha.tail.byt
 unfold nmdP
 rw [show ((i : Nat) : Int) + 1 = ((i + 1 : Nat) : Int) by omega]
 simp only [Int.toNat_natCast, hb]
 rw [show (((b.toNat : Nat) : Int) != 94) = true by rw [bne_iff_ne]; omega, show (((b.toNat : Nat) : Int) != 35) = true by rw [bne_iff_ne]; omega]
 cases decide (((i + 1 : Nat) : Int) ≥ ((ByteArray.size s : Nat) : Int)) <;> rfl
theorem cte_no (s : ByteArray) (i : Int) : (cteP s i).2 = 0 := by
 unfold cteP
 simp only [ctsP, Bool.not_false, cond_true]
 cases cond (decide ((idxA (ByteArray.extract s (Int.toNat (i + 1)) (ByteArray.size s)) ⟨#[91, 93]⟩ : Int) < 0)) true ((((byt s (Int.toNat ((i + 1) + (idxA (ByteArray.extract s (Int.toNat (i + 1)) (ByteArray.size s)) ⟨#[91, 93]⟩)))) : Nat) : Int) != 93) <;> rfl
def dfI : DInline := DInline.mk 0 ⟨#[]⟩ ⟨#[]⟩ ⟨#[]⟩ (DAttr.mk ⟨#[]⟩ [] []) [] [] []
theorem pce_opn {s : ByteArray} {i : Nat} {b : UInt8} {u : List UInt8} (ha : At s i (91 :: b :: u)) (h1 : b.toNat ≠ 94) (h2 : b.toNat ≠ 35) : pceP s ((i : Nat) : Int) = (DPiece.mk 2 dfI ⟨#[]⟩ 0 false false false 0 (((i : Nat) : Int) + 1), false) := by
 have hb := ha.byt
 have e1 := nmd_no ha h1 h2
 have e2 := cte_no s ((i : Nat) : Int)
 unfold pceP
 simp only [Int.toNat_natCast, hb, e1, e2]
 rfl
theorem pce_cls {s : ByteArray} {i : Nat} {u : List UInt8} (ha : At s i (93 :: u)) : pceP s ((i : Nat) : Int) = (DPiece.mk 3 dfI ⟨#[]⟩ 0 false false false 0 (((i : Nat) : Int) + 1), false) := by
 have hb := ha.byt
 unfold pceP
 simp only [Int.toNat_natCast, hb]
 rfl
def SpbB (b : UInt8) : Prop := b.toNat ≠ 92 ∧ b.toNat ≠ 38 ∧ b.toNat ≠ 36 ∧ b.toNat ≠ 96 ∧ b.toNat ≠ 60 ∧ b.toNat ≠ 123 ∧ b.toNat ≠ 33 ∧ b.toNat ≠ 42 ∧ b.toNat ≠ 95 ∧ b.toNat ≠ 126
theorem SPB.at {s : ByteArray} {i : Nat} {b : UInt8} {u : List UInt8} (ha : At s i (b :: u)) (h : SpbB b) : SPB s ((i : Nat) : Int) := by
 obtain ⟨h1, h2, h3, h4, h5, h6, h7, h8, h9, h10⟩ := h
 unfold SPB
 rw [BYi_at ha]
 exact ⟨by omega, by omega, by omega, by omega, by omega, by omega, by omega, by omega, by omega, by omega⟩
theorem Let.spb {b : UInt8} (h : Let b) : SpbB b := by
 obtain ⟨q1, q2⟩ := h
 exact ⟨by omega, by omega, by omega, by omega, by omega, by omega, by omega, by omega, by omega, by omega⟩
theorem next_at {s : ByteArray} (hn : Nt s) {i : Nat} {b : UInt8} {u : List UInt8} (ha : At s i (b :: u)) (h : SpbB b) : PNext s ((i : Nat) : Int) (pcA s ((i : Nat) : Int)) (pceP s ((i : Nat) : Int)).2 := by
 have hs := ha.size
 simp only [List.length_cons] at hs
 exact pcs1_to s _ (by have := hn.sz; omega) (by omega) (by omega) hn.a7 hn.noc (SPB.at ha h)
theorem lt_at {s : ByteArray} {i : Nat} {b : UInt8} {u : List UInt8} (ha : At s i (b :: u)) : ((i : Nat) : Int) < ((s.size : Nat) : Int) := by
 have hs := ha.size
 simp only [List.length_cons] at hs
 omega
theorem stp_lit {s : ByteArray} (hn : Nt s) {i : Nat} {b : UInt8} {u : List UInt8} (ha : At s i (b :: u)) (h : SpbB b) (hp : pceP s ((i : Nat) : Int) = (litP s ((i : Nat) : Int) (((i : Nat) : Int) + 1), true))
  (els : List DElem) (brs : List Int) (refs : Int) (he : els.length ≤ 1048576) (hr : 0 ≤ refs ∧ refs ≤ 1048576) : Stp s ⟨((i : Nat) : Int), els, brs, refs⟩ ⟨((i + 1 : Nat) : Int), els ++ [inE (txI ⟨#[b]⟩)], brs, refs⟩ := by
 refine ⟨lt_at ha, _, _, next_at hn ha h, ?_⟩
 have e : pcA s ((i : Nat) : Int) = { litP s ((i : Nat) : Int) (((i : Nat) : Int) + 1) with fAt := ((i : Nat) : Int) } := by
  unfold pcA; rw [hp]
 have hx : s.extract i (i + 1) = ⟨#[b]⟩ := At.ext (u := [b]) (At.left (v := u) ha)
 have e2 : (pcA s ((i : Nat) : Int)).fInline = txI ⟨#[b]⟩ := by
  rw [e]
  show DInline.mk 1 (ByteArray.extract s (Int.toNat ((i : Nat) : Int)) (Int.toNat (((i : Nat) : Int) + 1))) ⟨#[]⟩ ⟨#[]⟩ (DAttr.mk ⟨#[]⟩ [] []) [] [] [] = _
  rw [Int.toNat_natCast, show Int.toNat (((i : Nat) : Int) + 1) = i + 1 by omega, hx]
  rfl
 have hc := pOth_to s els brs refs (pcA s ((i : Nat) : Int)) (by omega) (by omega) (by rw [e]; exact (show (0 : Int) ≠ 1 by decide)) (by rw [e]; exact (show (0 : Int) ≠ 2 by decide)) (by rw [e]; exact (show (0 : Int) ≠ 3 by decide))
 rw [e2] at hc
 have e3 : (pcA s ((i : Nat) : Int)).fTo = ((i + 1 : Nat) : Int) := by
  rw [e]
  show ((i : Nat) : Int) + 1 = _
  omega
 rw [e3] at hc
 exact hc
theorem stp_let {s : ByteArray} (hn : Nt s) {i : Nat} {b : UInt8} {u : List UInt8} (ha : At s i (b :: u)) (hL : Let b) (els : List DElem) (brs : List Int) (refs : Int) (he : els.length ≤ 1048576) (hr : 0 ≤ refs ∧ refs ≤ 1048576) : Stp s ⟨((i : Nat) : Int), els, brs, refs⟩ ⟨((i + 1 : Nat) : Int), els ++ [inE (txI ⟨#[b]⟩)], brs, refs⟩ :=
 stp_lit hn ha hL.spb (pce_let ha hL) els brs refs he hr
theorem rd_word {s : ByteArray} (hn : Nt s) : ∀ (w : List UInt8) (i : Nat) (els : List DElem) (brs : List Int) (refs : Int), Lets w → At s i w → els.length + w.length ≤ 1048576 → (0 ≤ refs ∧ refs ≤ 1048576) → Rdg s w.length ⟨((i : Nat) : Int), els, brs, refs⟩ ⟨((i + w.length : Nat) : Int), els ++ rdW w, brs, refs⟩
 | [], i, els, brs, refs, _, _, _, _ => by
  rw [show els ++ rdW [] = els by simp [rdW]]
  exact .nil _
 | b :: w, i, els, brs, refs, hL, ha, hl, hr => by
  simp only [List.length_cons] at hl
  have h1 := stp_let hn ha (hL b (by simp)) els brs refs (by omega) hr
  have h2 := rd_word hn w (i + 1) (els ++ [inE (txI ⟨#[b]⟩)]) brs refs (fun x hx => hL x (by simp [hx])) ha.tail (by simp; omega) hr
  rw [show i + 1 + w.length = i + (b :: w).length by simp only [List.length_cons]; omega, List.append_assoc] at h2
  exact .cons h1 h2
def opE (refs : Int) : DElem := DElem.mk 2 (DPiece.mk 0 dfI ⟨#[]⟩ 0 false false false 0 0) false refs
theorem stp_opn {s : ByteArray} (hn : Nt s) {i : Nat} {b : UInt8} {u : List UInt8} (ha : At s i (91 :: b :: u)) (h1 : b.toNat ≠ 94) (h2 : b.toNat ≠ 35) (els : List DElem) (brs : List Int) (refs : Int) (he : els.length ≤ 1048576) (hb : brs.length ≤ 1048576) : Stp s ⟨((i : Nat) : Int), els, brs, refs⟩ ⟨((i + 1 : Nat) : Int), els ++ [opE refs], brs ++ [((els.length : Nat) : Int)], refs⟩ := by
 have hp := pce_opn ha h1 h2
 refine ⟨lt_at ha, _, _, next_at hn ha ⟨by decide, by decide, by decide, by decide, by decide, by decide, by decide, by decide, by decide, by decide⟩, ?_⟩
 have e : pcA s ((i : Nat) : Int) = { DPiece.mk 2 dfI ⟨#[]⟩ 0 false false false 0 (((i : Nat) : Int) + 1) with fAt := ((i : Nat) : Int) } := by
  unfold pcA; rw [hp]
 have hc := pOpn_to s els brs refs (pcA s ((i : Nat) : Int)) (by omega) (by omega) (by rw [e])
 rw [show opnE (pcA s ((i : Nat) : Int)) refs = opE refs by rw [e]; rfl] at hc
 have e3 : (pcA s ((i : Nat) : Int)).fTo = ((i + 1 : Nat) : Int) := by
  rw [e]
  show ((i : Nat) : Int) + 1 = _
  omega
 rw [e3] at hc
 exact hc
theorem stp_cls {s : ByteArray} (hn : Nt s) {i : Nat} {u : List UInt8} (ha : At s i (93 :: u)) (pre c : List DElem) (brs : List Int) (r0 refs : Int) (he : (pre ++ opE r0 :: c).length ≤ 1048576) (hb : brs.length ≤ 1048576) (hr : 0 ≤ refs ∧ refs ≤ 1048576) (x : DInline) (j : Int)
  (hk : BrkTo s (pre ++ opE r0 :: c) brs refs (opE r0) (pre.length + 1) ((i + 1 : Nat) : Int) (x, j, true)) : Stp s ⟨((i : Nat) : Int), pre ++ opE r0 :: c, brs ++ [((pre.length : Nat) : Int)], refs⟩ ⟨j, pre ++ [inE x], brs, cond (refB x.fKind) (refs + 1) refs⟩ := by
 have hp := pce_cls ha
 refine ⟨lt_at ha, _, _, next_at hn ha ⟨by decide, by decide, by decide, by decide, by decide, by decide, by decide, by decide, by decide, by decide⟩, ?_⟩
 have e : pcA s ((i : Nat) : Int) = { DPiece.mk 3 dfI ⟨#[]⟩ 0 false false false 0 (((i : Nat) : Int) + 1) with fAt := ((i : Nat) : Int) } := by
  unfold pcA; rw [hp]
 have e3 : (pcA s ((i : Nat) : Int)).fTo = ((i + 1 : Nat) : Int) := by
  rw [e]
  show ((i : Nat) : Int) + 1 = _
  omega
 have hel : el (pre ++ opE r0 :: c) (Int.toNat ((pre.length : Nat) : Int)) = opE r0 := by
  rw [Int.toNat_natCast]
  have := el_app pre (opE r0 :: c) 0
  rw [Nat.add_zero] at this
  rw [this]; rfl
 have hc := cls2_to s (pre ++ opE r0 :: c) brs ((pre.length : Nat) : Int) refs ((i + 1 : Nat) : Int) x j (by rw [hel, show (((pre.length : Nat) : Int) + 1).toNat = pre.length + 1 by omega]; exact hk) (by omega) (by omega) (by omega) ⟨by omega, by simp; omega⟩
 rw [Int.toNat_natCast, List.take_left] at hc
 exact pCls_to s _ _ _ _ _ _ _ _ (by rw [e]) (by rw [e3]; exact hc)
end Go.Proofs.YthbpjmogdonlkaaGreatDoor
set_option maxRecDepth 100000
namespace Go.Proofs.YthbpjmogdonlkaaGreatDoor
open Go Go.Eng
theorem rd_brk {s : ByteArray} (hn : Nt s) {i k n : Nat} {b : UInt8} {u v : List UInt8} (ha : At s i (91 :: b :: u)) (h1 : b.toNat ≠ 94) (h2 : b.toNat ≠ 35) (hk : At s k (93 :: v)) (els C : List DElem) (brs : List Int) (refs : Int) (he : els.length + 1 + C.length ≤ 1048576) (hb : brs.length ≤ 1048576) (hr : 0 ≤ refs ∧ refs ≤ 1048576) (x : DInline) (j : Int)
  (hin : Rdg s n ⟨((i + 1 : Nat) : Int), els ++ [opE refs], brs ++ [((els.length : Nat) : Int)], refs⟩ ⟨((k : Nat) : Int), (els ++ [opE refs]) ++ C, brs ++ [((els.length : Nat) : Int)], refs⟩)
  (hB : BrkTo s (els ++ opE refs :: C) brs refs (opE refs) (els.length + 1) ((k + 1 : Nat) : Int) (x, j, true)) :
  Rdg s (n + 2) ⟨((i : Nat) : Int), els, brs, refs⟩ ⟨j, els ++ [inE x], brs, cond (refB x.fKind) (refs + 1) refs⟩ := by
 have o := stp_opn hn ha h1 h2 els brs refs (by omega) hb
 have c := stp_cls hn hk els C brs refs refs (by simp; omega) hb hr x j hB
 rw [List.append_assoc] at hin
 have hh := Rdg.trans hin (.cons c (.nil _))
 exact .cons o hh
theorem brk_nst (els C : List DElem) (refs : Int) (xs : List DInline) (h : NsOk C 0 C.length ∧ nstM C 0 C.length = xs) : NsOk (els ++ opE refs :: C) (els.length + 1) ((els ++ opE refs :: C).length - (els.length + 1)) ∧ nstM (els ++ opE refs :: C) (els.length + 1) ((els ++ opE refs :: C).length - (els.length + 1)) = xs := by
 have e : els ++ opE refs :: C = (els ++ [opE refs]) ++ C := by simp
 have e2 : els.length + 1 = (els ++ [opE refs]).length := by simp
 have e3 : ((els ++ [opE refs]) ++ C).length - (els ++ [opE refs]).length = C.length := by simp only [List.length_append]; omega
 rw [e, e2, e3]
 exact ⟨h.1.pre _, by rw [nstM_pre]; exact h.2⟩
theorem brk_span {s : ByteArray} (hn : Nt s) {k : Nat} {y : List UInt8} (ha : At s k ([123, 46] ++ (y ++ [125]))) (hL : Lets y) (h0 : 0 < y.length) (h1 : y.length ≤ 60) (els C : List DElem) (brs : List Int) (refs : Int) (he : els.length + 1 + C.length ≤ 1048576) (xs : List DInline) (hC : NsOk C 0 C.length ∧ nstM C 0 C.length = xs) :
  BrkTo s (els ++ opE refs :: C) brs refs (opE refs) (els.length + 1) ((k : Nat) : Int) (mkI 11 e0 e0 e0 ⟨e0, [⟨y.toArray⟩], []⟩ xs, ((k + y.length + 3 : Nat) : Int), true) := by
 have hs := ha.size
 have hz := hn.sz
 simp only [List.length_append, List.length_cons, List.length_nil] at hs
 obtain ⟨q1, q2⟩ := brk_nst els C refs xs hC
 have b0 := BYi_at (u := 46 :: (y ++ [125])) ha
 have hb0 : BYi s ((k : Nat) : Int) = 123 := b0
 have b1 := BYi_at (At.tail (b := 123) (u := 46 :: (y ++ [125])) ha)
 have hb1 : BYi s (((k : Nat) : Int) + 1) = 46 := by rw [show ((k : Nat) : Int) + 1 = ((k + 1 : Nat) : Int) by omega]; exact b1
 have hy : At s (k + 2) (y ++ [125]) := ha.right
 have hw := wrd_at (by decide) hL hy
 have h3 : At s (k + 2 + y.length) [125] := hy.right
 have hb3 : BYi s ((k + 2 + y.length : Nat) : Int) = 125 := BYi_at h3
 have hx : ByteArray.extract s (Int.toNat (((k : Nat) : Int) + 2)) (Int.toNat ((k + 2 + y.length : Nat) : Int)) = ⟨y.toArray⟩ := by
  rw [Int.toNat_natCast, show Int.toNat (((k : Nat) : Int) + 2) = k + 2 by omega]
  exact hy.left.ext
 have hA := par1_to s ⟨y.toArray⟩ ((k : Nat) : Int) ((k + 2 + y.length : Nat) : Int) (by omega) (by omega) hb0 hb1 (by rw [show ((k : Nat) : Int) + 2 = ((k + 2 : Nat) : Int) by omega]; exact hw) (by omega) hb3 hx (nam_let hL h0 h1) (by show y.length ≤ _; omega)
 rw [show ((k + 2 + y.length : Nat) : Int) + 1 = ((k + y.length + 3 : Nat) : Int) by omega] at hA
 have hT := tail0_to s ((k : Nat) : Int) (by omega) (by omega) (by rw [hb0]; decide) (by rw [hb0]; decide)
 have hE := eph_to s ((k : Nat) : Int) (by omega) (by omega)
 rw [eph_no (u := y ++ [125]) ha] at hE
 have hEm := empA_to ⟨e0, [⟨y.toArray⟩], []⟩ (by
  have hz : (ByteArray.mk y.toArray).size = y.length := rfl
  show 1 + (0 + 1) + (((ByteArray.mk y.toArray).size + 1) + 0) + 0 ≤ 1073741824
  omega)
 have h := brkS_to s (els ++ opE refs :: C) brs refs (opE refs) (els.length + 1) ((k : Nat) : Int) ⟨e0, [⟨y.toArray⟩], []⟩ ((k + y.length + 3 : Nat) : Int) 0 hT rfl hE hA hEm (by simp; omega) (by simp) q1
 rw [q2] at h
 exact h
theorem Nt.of {l : List UInt8} (h : ∀ b ∈ l, b.toNat < 128 ∧ b.toNat ≠ 59 ∧ b.toNat ≠ 64 ∧ b.toNat ≠ 96) (hz : l.length ≤ 262144) : Nt ⟨l.toArray⟩ := by
 have e : (ByteArray.mk l.toArray).data.toList = l := by simp
 refine ⟨hz, fun j b hj => ?_, fun b hb => ?_, fun j hj => ?_⟩
 ·rw [e] at hj
  exact (h b (List.mem_of_getElem? hj)).1
 ·rw [e] at hb
  obtain ⟨_, h2, h3, _⟩ := h b hb
  exact ⟨fun q => by rw [q] at h2; exact h2 rfl, fun q => by rw [q] at h3; exact h3 rfl⟩
 ·have hj : j < l.length := hj
  rw [byt_list, e, List.getD_eq_getElem?_getD, List.getElem?_eq_getElem hj]
  have := (h _ (List.getElem_mem hj)).2.2.2
  simp only [Option.getD_some]
  omega
theorem Let.nt {b : UInt8} (h : Let b) : b.toNat < 128 ∧ b.toNat ≠ 59 ∧ b.toNat ≠ 64 ∧ b.toNat ≠ 96 := by
 obtain ⟨q1, q2⟩ := h
 exact ⟨by omega, by omega, by omega, by omega⟩
end Go.Proofs.YthbpjmogdonlkaaGreatDoor
set_option maxRecDepth 100000
namespace Go.Proofs.YthbpjmogdonlkaaGreatDoor
open Go Go.Eng
def dtx (w : List UInt8) : Nat → List UInt8
 | 0 => w
 | n + 1 => [91] ++ (dtx w n ++ [93, 123, 46, 99, 125])
def spC (xs : List DInline) : DInline := mkI 11 e0 e0 e0 ⟨e0, [⟨#[99]⟩], []⟩ xs
def dpT (w : List UInt8) : Nat → List DInline
 | 0 => [txI ⟨w.toArray⟩]
 | n + 1 => [spC (dpT w n)]
def dpX (w : List UInt8) : Nat → List DElem
 | 0 => rdW w
 | n + 1 => [inE (spC (dpT w n))]
def dpN (w : List UInt8) : Nat → Nat
 | 0 => w.length
 | n + 1 => dpN w n + 2
theorem dtx_len (w : List UInt8) : ∀ n, (dtx w n).length = w.length + 6 * n
 | 0 => rfl
 | n + 1 => by simp only [dtx, List.length_append, dtx_len w n, List.length_cons, List.length_nil]; omega
theorem dT_ne (w : List UInt8) : ∀ n, dpT w n ≠ []
 | 0 => by simp [dpT]
 | n + 1 => by simp [dpT]
theorem nst_deep {w : List UInt8} (h0 : 0 < w.length) (h1 : w.length ≤ 1048576) : ∀ n, NsOk (dpX w n) 0 (dpX w n).length ∧ nstM (dpX w n) 0 (dpX w n).length = dpT w n
 | 0 => by
  have h := nst_W w h0 h1
  have e : (dpX w 0).length = w.length := by simp [dpX, rdW]
  rw [e]; exact h
 | n + 1 => nst_K [spC (dpT w n)] (fun x hx => by rw [List.mem_singleton] at hx; subst hx; exact dT_ne w n) (by simp)
theorem dtx_head {w : List UInt8} (hL : Lets w) (h0 : 0 < w.length) (n : Nat) : ∃ b u, dtx w n = b :: u ∧ b.toNat ≠ 94 ∧ b.toNat ≠ 35 ∧ b.toNat ≠ 32 ∧ b.toNat ≠ 10 := by
 cases n with
 | zero =>
  obtain ⟨b, u, rfl⟩ : ∃ b u, w = b :: u := List.exists_cons_of_length_pos h0
  obtain ⟨q1, q2⟩ := hL b (by simp)
  exact ⟨b, u, rfl, by omega, by omega, by omega, by omega⟩
 | succ n => exact ⟨91, _, rfl, by decide, by decide, by decide, by decide⟩
theorem rd_deep {s : ByteArray} (hn : Nt s) {w : List UInt8} (hL : Lets w) (h0 : 0 < w.length) (hw : w.length ≤ 65536) : ∀ (n i : Nat) (els : List DElem) (brs : List Int), At s i (dtx w n) → els.length + n + w.length + 1 ≤ 1048576 → brs.length + n ≤ 1048576 → Rdg s (dpN w n) ⟨((i : Nat) : Int), els, brs, 0⟩ ⟨((i + (dtx w n).length : Nat) : Int), els ++ dpX w n, brs, 0⟩
 | 0, i, els, brs, ha, he, hb => rd_word hn w i els brs 0 hL ha (by omega) ⟨by omega, by omega⟩
 | n + 1, i, els, brs, ha, he, hb => by
  have hd : At s (i + 1) (dtx w n ++ [93, 123, 46, 99, 125]) := At.right (u := [91]) ha
  have h3 : At s (i + 1 + (dtx w n).length) [93, 123, 46, 99, 125] := hd.right
  have hin := rd_deep hn hL h0 hw n (i + 1) (els ++ [opE 0]) (brs ++ [((els.length : Nat) : Int)]) hd.left (by simp; omega) (by simp; omega)
  obtain ⟨b, u, hu, q1, q2, _⟩ := dtx_head hL h0 n
  have hns := nst_deep h0 (by omega) n
  have hXl : (dpX w n).length ≤ w.length := by
   cases n with
   | zero => simp [dpX, rdW]
   | succ n => simp [dpX]; omega
  have hB := brk_span hn (k := i + 1 + (dtx w n).length + 1) (y := [99]) h3.tail (by intro b hb; rw [List.mem_singleton] at hb; subst hb; exact ⟨by decide, by decide⟩) (by simp) (by simp) els (dpX w n) brs 0 (by omega) (dpT w n) hns
  have ha2 : At s i (91 :: b :: (u ++ [93, 123, 46, 99, 125])) := by
   have := ha
   simp only [dtx, hu] at this
   exact this
  have h := rd_brk hn ha2 q1 q2 h3 els (dpX w n) brs 0 (by omega) (by omega) ⟨by omega, by omega⟩ _ _ hin hB
  have e : ((i + 1 + (dtx w n).length + 1 + ([99] : List UInt8).length + 3 : Nat) : Int) = ((i + (dtx w (n + 1)).length : Nat) : Int) := by
   rw [dtx_len, dtx_len]; simp; omega
  rw [e] at h
  exact h
theorem nb_deep (w : List UInt8) : ∀ n, nbN (n + 1) (dpT w n)
 | 0 => ⟨by simp [dpT], fun x hx => by
   simp only [dpT, List.mem_singleton] at hx
   subst hx
   exact ⟨(show (1 : Int) ≠ 2 by decide), (show (1 : Int) ≠ 3 by decide), rfl⟩⟩
 | n + 1 => ⟨by simp [dpT], fun x hx => by
   simp only [dpT, List.mem_singleton] at hx
   subst hx
   exact ⟨(show (11 : Int) ≠ 2 by decide), (show (11 : Int) ≠ 3 by decide), nb_deep w n⟩⟩
theorem sz_deep (w : List UInt8) : ∀ n, szN (n + 1) (dpT w n) = n + 1
 | 0 => rfl
 | n + 1 => by
  show 1 + szN (n + 1) (dpT w n) = _
  rw [sz_deep w n]; omega
theorem dp_deep (w : List UInt8) : ∀ n, dptN (n + 1) (dpT w n) = n + 1
 | 0 => rfl
 | n + 1 => by
  show max 0 (1 + dptN (n + 1) (dpT w n)) = _
  rw [dp_deep w n]; omega
theorem dtx_mem {w : List UInt8} (hL : Lets w) : ∀ n, ∀ b ∈ dtx w n, b.toNat < 128 ∧ b.toNat ≠ 59 ∧ b.toNat ≠ 64 ∧ b.toNat ≠ 96
 | 0, b, hb => (hL b hb).nt
 | n + 1, b, hb => by
  simp only [dtx, List.mem_append, List.mem_cons, List.not_mem_nil, or_false] at hb
  rcases hb with rfl | hb | rfl | rfl | rfl | rfl | rfl
  ·decide
  ·exact dtx_mem hL n b hb
  all_goals decide
theorem dtx_last {w : List UInt8} (hL : Lets w) (n : Nat) : ∀ b, (dtx w n).getLast? = some b → b ≠ 32 ∧ b ≠ 10 := by
 intro b hb
 cases n with
 | zero =>
  obtain ⟨q1, q2⟩ := hL b (List.mem_of_getLast? hb)
  refine ⟨fun e => ?_, fun e => ?_⟩ <;> (rw [e] at q1; exact absurd q1 (by decide))
 | succ n =>
  have : b = 125 := by
   simp only [dtx] at hb
   rw [← List.append_assoc, List.getLast?_append] at hb
   simpa using hb.symm
  subst this
  decide
theorem par_deep {w : List UInt8} (hL : Lets w) (h0 : 0 < w.length) (hw : w.length ≤ 65536) (n : Nat) (hn : n ≤ 900) (r : AV) (hr : r = if n + 1 ≤ 16 then .tup [.sl ((dpT w n).map aInline), vI 0] else .tup [.sl [], vI 11]) :
  CallTo Tryz.prog 11 [jS ⟨(dtx w n).toArray⟩] [] [] (.av r) [] [] := by
 have hz := dtx_len w n
 have hN := Nt.of (dtx_mem hL n) (by omega)
 have hsz : (ByteArray.mk (dtx w n).toArray).size = (dtx w n).length := rfl
 have hns := nst_deep h0 (by omega) n
 have hrd := rd_deep hN hL h0 hw n 0 [] [] (by simpa using At.all ⟨(dtx w n).toArray⟩) (by simp; omega) (by simp; omega)
 rw [List.nil_append, Nat.zero_add] at hrd
 have hXl : (dpX w n).length ≤ w.length := by
  cases n with
  | zero => simp [dpX, rdW]
  | succ n => simp [dpX]; omega
 obtain ⟨b, u, hu, _, _, q3, q4⟩ := dtx_head hL h0 n
 have hk : ∀ x ∈ dpT w n, x.fKind ≠ 2 ∧ x.fKind ≠ 3 := fun x hx => ⟨((nb_deep w n).2 x hx).1, ((nb_deep w n).2 x hx).2.1⟩
 have hR := read_to ⟨(dtx w n).toArray⟩ (by omega) hN.nob (dpN w n) ⟨(((dtx w n).length : Nat) : Int), dpX w n, [], 0⟩ hrd (by rw [hsz]; exact Int.le_refl _) rfl (by show (dpX w n).length ≤ _; omega) hns.1 (n + 1) (by
  show nbN (n + 1) (nstM (dpX w n) 0 (dpX w n).length)
  rw [hns.2]; exact nb_deep w n) (by
  show 0 < (nstM (dpX w n) 0 (dpX w n).length).length
  rw [hns.2]; exact List.length_pos_iff.2 (dT_ne w n)) (by
  show ∀ x ∈ nstM (dpX w n) 0 (dpX w n).length, _
  rw [hns.2]; exact hk)
 simp only [hns.2] at hR
 refine par_to ⟨(dtx w n).toArray⟩ ⟨(dtx w n).toArray⟩ (dpX w n) 0 (dpT w n) (by omega) (trm_id (fun b' hb' => ?_) (dtx_last hL n)) hR (n + 1) (by omega) (nb_deep w n) (by rw [sz_deep]; omega) r (by rw [dp_deep]; exact hr)
 rw [hu] at hb'
 simp only [List.head?_cons, Option.some.injEq] at hb'
 subst hb'
 exact ⟨fun e => q3 (by rw [e]; rfl), fun e => q4 (by rw [e]; rfl)⟩
end Go.Proofs.YthbpjmogdonlkaaGreatDoor
set_option maxRecDepth 100000
namespace Go.Proofs.YthbpjmogdonlkaaGreatDoor
open Go Go.Eng
end Go.Proofs.YthbpjmogdonlkaaGreatDoor
namespace Go.Proofs.YthbpjmogdonlkaaGreatDoor
open Go Go.Eng
def aByt (b : UInt8) : AV := .val (.int .u8 ((b.toNat : Nat) : Int))
def wb (b : UInt8) : ByteArray := bytesOf [.val (.int .u8 ((97 + b.toNat % 26 : Nat) : Int))]
def wc (b : UInt8) : UInt8 := UInt8.ofNat ((97 + b.toNat % 26 : Nat) : Int).toNat
theorem wb_eq (b : UInt8) : wb b = ⟨#[wc b]⟩ := rfl
theorem wc_let (b : UInt8) : Let (wc b) := by
 unfold Let wc
 have : b.toNat % 26 < 26 := Nat.mod_lt _ (by decide)
 rw [Int.toNat_natCast, UInt8.toNat_ofNat']
 omega
def wrd (l : List UInt8) : List UInt8 := 119 :: (l.take 20).map wc
def wrdP (l : List UInt8) (v : Nat) : ByteArray := ⟨(119 :: (l.take v).map wc).toArray⟩
theorem wrd_let (l : List UInt8) : Lets (wrd l) := by
 intro b hb
 rcases List.mem_cons.1 hb with rfl | hb
 ·exact ⟨by decide, by decide⟩
 ·obtain ⟨c, _, rfl⟩ := List.mem_map.1 hb
  exact wc_let c
theorem wrd_len (l : List UInt8) : 0 < (wrd l).length ∧ (wrd l).length ≤ 21 := by
 simp only [wrd, List.length_cons, List.length_map, List.length_take]; omega
theorem wrdP_succ {l : List UInt8} {v : Nat} (h : v < l.length) : wrdP l v ++ wb (l.getD v 0) = wrdP l (v + 1) := by
 unfold wrdP
 rw [wb_eq, List.take_succ_eq_append_getElem h]
 apply ByteArray.ext
 apply Array.toList_inj.1
 simp [List.getD, h]
 rw [← List.map_take, ← List.map_take, List.take_succ_eq_append_getElem h, List.map_append]
 rfl
theorem wrdP_end {l : List UInt8} {v : Nat} (h : v ≤ l.length) (h2 : v ≤ 20) (h3 : ¬ (v < l.length ∧ v < 20)) : wrdP l v = ⟨(wrd l).toArray⟩ := by
 unfold wrdP wrd
 rcases Nat.lt_or_ge v 20 with h4 | h4
 ·have : v = l.length := by omega
  rw [List.take_of_length_le (by omega), List.take_of_length_le (by omega)]
 ·rw [show v = 20 by omega]
theorem wrdP_size (l : List UInt8) (v : Nat) : (wrdP l v).size ≤ v + 1 := by
 show (119 :: (l.take v).map wc).length ≤ _
 simp; omega
theorem el_byt (l : List UInt8) (v : Nat) (h : v < l.length) : 0 ≤ ((v : Nat) : Int) ∧ (l.map aByt)[((v : Nat) : Int).toNat]? = some (aByt (l.getD v 0)) := by
 refine ⟨by omega, ?_⟩
 rw [Int.toNat_natCast, List.getElem?_map, List.getElem?_eq_getElem h]
 simp [List.getD, h]
theorem word_to (l : List UInt8) : CallTo Tryz.prog 15 [jL (l.map aByt)] [] [] (jS ⟨(wrd l).toArray⟩) [] [] := by
 have hml : (l.map aByt).length = l.length := List.length_map ..
 refine BEG (fun _ : Unit => jS ⟨(wrd l).toArray⟩) () Tryz.func15 (by kernel_rfl) ?_
 refine GO (tn 3 z) (by kernel_rfl) ?_
 refine LP (n := l.length + 1) (fun N M S => ∃ v : Nat, (v ≤ l.length) ∧ (v ≤ 20) ∧ (l.length - v < N) ∧ M = () ∧ S = (sx 26 [(0, jL (l.map aByt)), (3, jS (wrdP l v)), (4, jI ((v : Nat) : Int))] [] [])) (by kernel_rfl) ⟨0, by omega, by omega, by omega, rfl, rfl⟩ (WK (by kernel_rfl)) ?_
 rintro n M S ⟨v, hv, h20, hF, rfl, rfl⟩
 obtain ⟨n, rfl⟩ : ∃ k, n = k + 1 := ⟨n - 1, by omega⟩
 by_cases h1 : v < l.length
 ·have hd : decide (((v : Nat) : Int) < (((l.map aByt).length : Nat) : Int)) = true := decide_eq_true (by omega)
  by_cases h2 : v < 20
  ·have hd2 : decide (((v : Nat) : Int) < 20) = true := decide_eq_true (by omega)
   have hs := wrdP_size l v
   have hb := (l.getD v 0).toNat_lt
   have hwr := wrE (((v : Nat) : Int) + 1) ((v + 1 : Nat) : Int) (by omega)
   have hm : IntKind.u8.wrap (97 + Int.tmod (((l.getD v 0).toNat : Nat) : Int) 26) = ((97 + (l.getD v 0).toNat % 26 : Nat) : Int) := by
    generalize (l.getD v 0).toNat = b at hb
    have e : Int.tmod ((b : Nat) : Int) 26 = ((b % 26 : Nat) : Int) := by
     rw [Int.tmod_eq_emod_of_nonneg (by omega)]; omega
    rw [e]
    simp only [IntKind.wrap, IntKind.signed, IntKind.bits]
    simp
    omega
   have hun : Uni 1 [(.val (.int .u8 ((97 + (l.getD v 0).toNat % 26 : Nat) : Int)) : AV)] := uni1 rfl rfl
   have hib : List.all [(.val (.int .u8 ((97 + (l.getD v 0).toNat % 26 : Nat) : Int)) : AV)] AV.isByte = true := rfl
   have hsz : (((wrdP l v).size + (wb (l.getD v 0)).size : Nat) : Int) ≤ IntKind.i64.max := by rw [show (wb (l.getD v 0)).size = 1 from rfl, show IntKind.i64.max = 9223372036854775807 from rfl]; omega
   refine GO (tn 5 (kb hd (tn 1 (kb hd (tn 1 (kb hd (kb hd2 (tn 3 (ke (el_byt l v h1) (tn 1 (kp (show (26 : Int) ≠ 0 by decide) (kn hm (kp hun (kp hib (kp hsz (tn 2 (kn hwr (tn 1 z)))))))))))))))))) (by kernel_rfl) ?_
   exact AG ⟨v + 1, by omega, by omega, by omega, rfl, by rw [← wrdP_succ h1]⟩ (WK (by kernel_rfl)) (by kernel_rfl) (Nat.lt_succ_self _)
  ·have hd2 : decide (((v : Nat) : Int) < 20) = false := decide_eq_false (by omega)
   have he := wrdP_end hv h20 (fun h => h2 h.2)
   refine GO (tn 5 (kb hd (tn 1 (kb hd (tn 1 (kb hd (kb hd2 z))))))) (by kernel_rfl) ?_
   refine OUT (tn 2 z) (by kernel_rfl) ?_
   exact ENw (r := jS (wrdP l v)) (by rw [he]) (by kernel_rfl)
 ·have hd : decide (((v : Nat) : Int) < (((l.map aByt).length : Nat) : Int)) = false := decide_eq_false (by omega)
  have he := wrdP_end hv h20 (fun h => h1 h.1)
  refine GO (tn 5 (kb hd (kb hd (kb hd (kb (rfl : false = false) z))))) (by kernel_rfl) ?_
  refine OUT (tn 2 z) (by kernel_rfl) ?_
  exact ENw (r := jS (wrdP l v)) (by rw [he]) (by kernel_rfl)
end Go.Proofs.YthbpjmogdonlkaaGreatDoor
namespace Go.Proofs.YthbpjmogdonlkaaGreatDoor
open Go Go.Eng
def plP : Nat → List DInline → Prop
 | 0, l => l = []
 | n + 1, l => l.length ≤ 1048576 ∧ ∀ x ∈ l, x.fKind = 1 ∨ ((x.fKind = 6 ∨ x.fKind = 9 ∨ x.fKind = 11) ∧ plP n x.fKids)
def plT : Nat → List DInline → ByteArray
 | 0, _ => e0
 | n + 1, l => l.foldl (fun t x => t ++ if x.fKind = 1 then x.fText else plT n x.fKids) e0
def plC : Nat → List DInline → Nat
 | 0, _ => 0
 | n + 1, l => l.foldl (fun c x => c + if x.fKind = 1 then 1 else plC n x.fKids) 0
theorem foldl_ap {f : DInline → ByteArray} : ∀ (l : List DInline) (t : ByteArray), l.foldl (fun t x => t ++ f x) t = t ++ l.foldl (fun t x => t ++ f x) e0
 | [], t => by simp only [List.foldl_nil]; exact (ba_nil t).symm
 | x :: l, t => by
  simp only [List.foldl_cons]
  rw [foldl_ap l (t ++ f x), foldl_ap l (e0 ++ f x), show e0 ++ f x = f x from nil_ba _, ByteArray.append_assoc]
theorem foldl_sz {f : DInline → ByteArray} (l : List DInline) (v : Nat) (h : v < l.length) : ((l.take v).foldl (fun t x => t ++ f x) e0).size + (f (el l v)).size ≤ (l.foldl (fun t x => t ++ f x) e0).size := by
 have e : l.foldl (fun t x => t ++ f x) e0 = ((l.take v).foldl (fun t x => t ++ f x) e0 ++ f (el l v)) ++ (l.drop (v + 1)).foldl (fun t x => t ++ f x) e0 := by
  conv => lhs; rw [← List.take_append_drop (v + 1) l, List.foldl_append, tk_el h, List.foldl_append, foldl_ap]
  rfl
 rw [e, ByteArray.size_append, ByteArray.size_append]
 omega
def wpS (l : List DInline) (t : ByteArray) (g v : Nat) : St := sx 55 [(0, .ptr 1000 0), (1, jL (l.map aInline)), (7, jI ((lenM aInline l : Nat) : Int)), (8, jI ((v : Nat) : Int))] [(1000, bldA t g)] (bldG g)
theorem wpl_to : ∀ (n : Nat) (l : List DInline) (t : ByteArray) (g : Nat), plP n l → t.size + (plT n l).size ≤ 1073741824 →
  CallTo Tryz.prog 37 [.ptr 1000 0, jL (l.map aInline)] [(1000, bldA t g)] (bldG g) undefS [(1000, bldA (t ++ plT n l) (g + plC n l))] (bldG (g + plC n l)) := by
 intro n
 induction n with
 | zero =>
  intro l t g h hz
  rw [show l = [] from h, show t ++ plT 0 [] = t from ba_nil t]
  refine BEGb (fun _ : Unit => undefS) () Tryz.func37 (by kernel_rfl) (by simp) (by simp [bldG]) (by simp [OkSV, SV.keys]) (okBld t g g rfl) (by simp [OkSV, SV.keys, undefS]) (okBld _ _ _ rfl) rfl rfl ?_
  refine GO (tn 3 z) (by kernel_rfl) ?_
  refine uN (sx 55 [(0, .ptr 1000 0), (7, jI 0), (8, jI 0)] [(1000, bldA t g)] (bldG g)) 1 ?_
  refine GO (tn 1 (kb (b := decide ((0 : Int) < (0 : Int))) (d := false) rfl z)) (by kernel_rfl) ?_
  refine uO z ?_
  refine ENb (by kernel_rfl) ?_ ?_
  ·intro p hp
   simp only [List.mem_cons, List.not_mem_nil, or_false] at hp
   subst hp; kernel_rfl
  ·intro p hp
   simp only [bldG, List.mem_cons, List.not_mem_nil, or_false] at hp
   subst hp; kernel_rfl
 | succ n ih =>
  intro l t g h hz
  have hlq := lenM_eq aInline l
  have hl := h.1
  refine BEGb (fun _ : Unit => undefS) () Tryz.func37 (by kernel_rfl) (by simp) (by simp [bldG]) (by simp [OkSV, SV.keys]) (okBld t g g rfl) (by simp [OkSV, SV.keys, undefS]) (okBld _ _ _ rfl) rfl rfl ?_
  refine GO (tn 3 z) (by kernel_rfl) ?_
  refine LP (n := l.length + 1) (fun N M S => ∃ (v : Nat) (u : ByteArray) (k : Nat), v ≤ l.length ∧ u = (l.take v).foldl (fun t x => t ++ if x.fKind = 1 then x.fText else plT n x.fKids) e0 ∧ k = (l.take v).foldl (fun c x => c + if x.fKind = 1 then 1 else plC n x.fKids) 0 ∧ l.length - v < N ∧ M = () ∧ S = wpS l (t ++ u) (g + k) v) (by kernel_rfl) ⟨0, e0, 0, by omega, rfl, rfl, by omega, rfl, rfl⟩ (by rw [show t ++ e0 = t from ba_nil t]; exact WK (by kernel_rfl)) ?_
  rintro n0 M S ⟨v, u, k, hv, hu, hk, hF0, rfl, rfl⟩
  obtain ⟨n0, rfl⟩ : ∃ k, n0 = k + 1 := ⟨n0 - 1, by omega⟩
  by_cases h1 : v < l.length
  ·have hd : decide (((v : Nat) : Int) < ((lenM aInline l : Nat) : Int)) = true := dT (by omega)
   have w2 := wrE (((v : Nat) : Int) + 1) ((v + 1 : Nat) : Int) (by omega)
   have hev := el_aInline l v h1
   have hsz := foldl_sz (f := fun x => if x.fKind = 1 then x.fText else plT n x.fKids) l v h1
   rw [← hu] at hsz
   have hsz2 : u.size + (if (el l v).fKind = 1 then (el l v).fText else plT n (el l v).fKids).size ≤ (plT (n + 1) l).size := hsz
   rcases h.2 _ (el_mem (l := l) (i := v) h1) with hk1 | ⟨hk1, hp⟩
   ·rw [if_pos hk1] at hsz2
    have hw := WriteString_to (t ++ u) (el l v).fText (g + k) (by rw [ByteArray.size_append]; omega)
    rw [ByteArray.append_assoc] at hw
    have hb1 : ((el l v).fKind == 1) = true := by rw [hk1]; rfl
    refine GO (tn 1 (kb hd (tn 4 (ke hev (tn 7 (kb hb1 (kb hb1 (tn 5 (kg hw (show g + k = g + k ∧ True from ⟨rfl, trivial⟩) (kn w2 (tn 1 z))))))))))) (by kernel_rfl) ?_
    exact AG (m := n0) ⟨v + 1, u ++ (el l v).fText, k + 1, by omega, by rw [tk_el h1, List.foldl_append, ← hu]; simp only [List.foldl_cons, List.foldl_nil]; rw [if_pos hk1], by rw [tk_el h1, List.foldl_append, ← hk]; simp only [List.foldl_cons, List.foldl_nil]; rw [if_pos hk1], by omega, rfl, rfl⟩ (WK (by kernel_rfl)) (by kernel_rfl) (Nat.lt_succ_self _)
   ·have hk0 : (el l v).fKind ≠ 1 := by rcases hk1 with e | e | e <;> (rw [e]; decide)
    rw [if_neg hk0] at hsz2
    have hw := ih (el l v).fKids (t ++ u) (g + k) hp (by rw [ByteArray.size_append]; omega)
    rw [ByteArray.append_assoc, Nat.add_assoc] at hw
    rcases hk1 with e | e | e
    ·have n1 : ((el l v).fKind == 1) = false := by rw [e]; rfl
     have n4 : ((el l v).fKind == 4) = false := by rw [e]; rfl
     have n5 : ((el l v).fKind == 5) = false := by rw [e]; rfl
     have n2 : ((el l v).fKind == 2) = false := by rw [e]; rfl
     have n3 : ((el l v).fKind == 3) = false := by rw [e]; rfl
     have n6 : ((el l v).fKind == 6) = true := by rw [e]; rfl
     refine GO (tn 1 (kb hd (tn 4 (ke hev (tn 7 (kb n1 (tn 2 (kb n4 (tn 2 (kb n5 (tn 2 (kb n2 (tn 2 (kb n3 (tn 2 (kb n6 (kb n6 (tn 5 (kg hw (show g + k = g + k ∧ True from ⟨rfl, trivial⟩) (kn w2 (tn 1 z))))))))))))))))))))) (by kernel_rfl) ?_
     exact AG (m := n0) ⟨v + 1, u ++ plT n (el l v).fKids, k + plC n (el l v).fKids, by omega, by rw [tk_el h1, List.foldl_append, ← hu]; simp only [List.foldl_cons, List.foldl_nil]; rw [if_neg hk0], by rw [tk_el h1, List.foldl_append, ← hk]; simp only [List.foldl_cons, List.foldl_nil]; rw [if_neg hk0], by omega, rfl, rfl⟩ (WK (by kernel_rfl)) (by kernel_rfl) (Nat.lt_succ_self _)
    ·have n1 : ((el l v).fKind == 1) = false := by rw [e]; rfl
     have n4 : ((el l v).fKind == 4) = false := by rw [e]; rfl
     have n5 : ((el l v).fKind == 5) = false := by rw [e]; rfl
     have n2 : ((el l v).fKind == 2) = false := by rw [e]; rfl
     have n3 : ((el l v).fKind == 3) = false := by rw [e]; rfl
     have n6 : ((el l v).fKind == 6) = false := by rw [e]; rfl
     have n7 : ((el l v).fKind == 7) = false := by rw [e]; rfl
     have n8 : ((el l v).fKind == 8) = false := by rw [e]; rfl
     have n9 : ((el l v).fKind == 9) = true := by rw [e]; rfl
     refine GO (tn 1 (kb hd (tn 4 (ke hev (tn 7 (kb n1 (tn 2 (kb n4 (tn 2 (kb n5 (tn 2 (kb n2 (tn 2 (kb n3 (tn 2 (kb n6 (tn 2 (kb n7 (tn 2 (kb n8 (tn 2 (kb n9 (kb n9 (tn 5 (kg hw (show g + k = g + k ∧ True from ⟨rfl, trivial⟩) (kn w2 (tn 1 z))))))))))))))))))))))))))) (by kernel_rfl) ?_
     exact AG (m := n0) ⟨v + 1, u ++ plT n (el l v).fKids, k + plC n (el l v).fKids, by omega, by rw [tk_el h1, List.foldl_append, ← hu]; simp only [List.foldl_cons, List.foldl_nil]; rw [if_neg hk0], by rw [tk_el h1, List.foldl_append, ← hk]; simp only [List.foldl_cons, List.foldl_nil]; rw [if_neg hk0], by omega, rfl, rfl⟩ (WK (by kernel_rfl)) (by kernel_rfl) (Nat.lt_succ_self _)
    ·have n1 : ((el l v).fKind == 1) = false := by rw [e]; rfl
     have n4 : ((el l v).fKind == 4) = false := by rw [e]; rfl
     have n5 : ((el l v).fKind == 5) = false := by rw [e]; rfl
     have n2 : ((el l v).fKind == 2) = false := by rw [e]; rfl
     have n3 : ((el l v).fKind == 3) = false := by rw [e]; rfl
     have n6 : ((el l v).fKind == 6) = false := by rw [e]; rfl
     have n7 : ((el l v).fKind == 7) = false := by rw [e]; rfl
     have n8 : ((el l v).fKind == 8) = false := by rw [e]; rfl
     have n9 : ((el l v).fKind == 9) = false := by rw [e]; rfl
     have n10 : ((el l v).fKind == 10) = false := by rw [e]; rfl
     have n11 : ((el l v).fKind == 11) = true := by rw [e]; rfl
     refine GO (tn 1 (kb hd (tn 4 (ke hev (tn 7 (kb n1 (tn 2 (kb n4 (tn 2 (kb n5 (tn 2 (kb n2 (tn 2 (kb n3 (tn 2 (kb n6 (tn 2 (kb n7 (tn 2 (kb n8 (tn 2 (kb n9 (tn 2 (kb n10 (tn 2 (kb n11 (tn 5 (kg hw (show g + k = g + k ∧ True from ⟨rfl, trivial⟩) (kn w2 (tn 1 z)))))))))))))))))))))))))))))) (by kernel_rfl) ?_
     exact AG (m := n0) ⟨v + 1, u ++ plT n (el l v).fKids, k + plC n (el l v).fKids, by omega, by rw [tk_el h1, List.foldl_append, ← hu]; simp only [List.foldl_cons, List.foldl_nil]; rw [if_neg hk0], by rw [tk_el h1, List.foldl_append, ← hk]; simp only [List.foldl_cons, List.foldl_nil]; rw [if_neg hk0], by omega, rfl, rfl⟩ (WK (by kernel_rfl)) (by kernel_rfl) (Nat.lt_succ_self _)
  ·have hd : decide (((v : Nat) : Int) < ((lenM aInline l : Nat) : Int)) = false := dF (by omega)
   have hvl : v = l.length := by omega
   subst hvl
   rw [List.take_length] at hu hk
   have hu2 : u = plT (n + 1) l := hu
   have hk2 : k = plC (n + 1) l := hk
   rw [← hu2, ← hk2]
   refine GO (tn 1 (kb hd z)) (by kernel_rfl) ?_
   refine OUT z (by kernel_rfl) ?_
   refine ENb (by kernel_rfl) ?_ ?_
   ·intro p hp
    simp only [List.mem_cons, List.not_mem_nil, or_false] at hp
    subst hp; kernel_rfl
   ·intro p hp
    simp only [bldG, List.mem_cons, List.not_mem_nil, or_false] at hp
    subst hp; kernel_rfl
theorem plain_to (n : Nat) (l : List DInline) (h : plP n l) (h0 : 0 < (plT n l).size) (hz : (plT n l).size ≤ 1073741824) : CallTo Tryz.prog 17 [jL (l.map aInline)] [] [] (jS (plT n l)) [] [] := by
 have hw0 := wpl_to n l e0 0 h (by show 0 + _ ≤ _; omega)
 rw [show e0 ++ plT n l = plT n l from nil_ba _, Nat.zero_add] at hw0
 have hw : CallTo Tryz.prog 37 [.ptr 3 0, jL (l.map aInline)] [(3, .cells 80 [.son 3, .own KBx 0 1 (bytesAV e0)])] [(KBx, 0)] undefS [(3, .cells 80 [.son 3, .own KBx (plC n l) 1 (bytesAV (plT n l))])] [(KBx, plC n l)] := castp (by kernel_rfl) (CallTo_ren (swap_inv (3, 0) (1000, 0) rfl) hw0)
 have hst0 := String_to (.son 1000) 1300 (plC n l) (plT n l) h0 (by omega)
 have hst : CallTo Tryz.prog 38 [.ptr 3 0] [(3, .cells 80 [.son 3, .own KBx (plC n l) 1 (bytesAV (plT n l))])] [(KBx, plC n l)] (.av (.val (.string (plT n l)))) [(3, .cells 80 [.son 3, .av (.sl (bytesAV (plT n l)))])] [(KBx, plC n l + 1)] := castp (by kernel_rfl) (CallTo_ren (swap_inv (3, 0) (1000, 0) rfl) hst0)
 refine bG Tryz.func17 ?_
 refine GO (tn 2 (kq 2 z)) (by kernel_rfl) ?_
 refine RT [(3, 0, .son 3), (3, 1, .own KBx 0 1 (bytesAV e0))] (ac (show (AV.val (.pointer none)) = .val (.pointer none) from rfl) (ac (show (bytesAV e0 : List AV) = [] ∧ 0 < 6 ∧ (0 : Nat) = 0 from ⟨rfl, by decide, rfl⟩) an)) (by kernel_rfl) ?_
 refine GO (tn 1 (kg hw (show (0 : Nat) = 0 ∧ True from ⟨rfl, trivial⟩) (kg hst (show plC n l = plC n l ∧ True from ⟨rfl, trivial⟩) (tn 1 z)))) (by kernel_rfl) ?_
 exact eN
theorem rdep_to : ∀ (n : Nat) (l : List DInline), n ≤ 1000 → nbN n l → CallTo Tryz.prog 18 [jL (l.map aInline)] [] [] (jI ((dptN n l : Nat) : Int)) [] [] := by
 intro n
 induction n with
 | zero =>
  intro l _ h
  rw [show l = [] from h]
  refine bG Tryz.func18 ?_
  refine GO (tn 3 z) (by kernel_rfl) ?_
  refine uN (sx 21 [(0, jL []), (3, jI 0), (4, jI 0)] [] []) 1 ?_
  refine GO (tn 4 (kb (b := decide ((0 : Int) < (0 : Int))) (d := false) rfl z)) (by kernel_rfl) ?_
  refine uO (tn 2 z) ?_
  exact eN
 | succ n ih =>
  intro l hn h
  have hlq := lenM_eq aInline l
  have hml : (l.map aInline).length = l.length := List.length_map ..
  have hl := h.1
  refine bG Tryz.func18 ?_
  refine GO (tn 3 z) (by kernel_rfl) ?_
  refine LP (n := l.length + 1) (fun N M S => ∃ (v m : Nat), v ≤ l.length ∧ m = (l.take v).foldl (fun m x => max m (1 + dptN n x.fKids)) 0 ∧ m ≤ n + 1 ∧ l.length - v < N ∧ M = () ∧ S = sx 21 [(0, jL (l.map aInline)), (3, jI ((m : Nat) : Int)), (4, jI ((v : Nat) : Int))] [] []) (by kernel_rfl) ⟨0, 0, by omega, rfl, by omega, by omega, rfl, rfl⟩ (WK (by kernel_rfl)) ?_
  rintro n0 M S ⟨v, m, hv, hm, hmn, hF0, rfl, rfl⟩
  obtain ⟨n0, rfl⟩ : ∃ k, n0 = k + 1 := ⟨n0 - 1, by omega⟩
  by_cases h1 : v < l.length
  ·have hd : decide (((v : Nat) : Int) < (((l.map aInline).length : Nat) : Int)) = true := decide_eq_true (by omega)
   have hc := ih (el l v).fKids (by omega) (h.2 _ (el_mem (l := l) (i := v) h1)).2.2
   have hb := dptN_le n (el l v).fKids
   have w1 := wrE (1 + ((dptN n (el l v).fKids : Nat) : Int)) ((1 + dptN n (el l v).fKids : Nat) : Int) (by omega)
   have w2 := wrE (((v : Nat) : Int) + 1) ((v + 1 : Nat) : Int) (by omega)
   refine GO (tn 4 (kb hd (tn 3 (ke (el_aInline l v h1) (tn 2 (kc hc (kn w1 (tn 3 (kn w2 (tn 1 z)))))))))) (by kernel_rfl) ?_
   refine AG (m := n0) (S'' := sx 21 [(0, jL (l.map aInline)), (3, jI ((max m (1 + dptN n (el l v).fKids) : Nat) : Int)), (4, jI ((v + 1 : Nat) : Int))] [] []) ⟨v + 1, max m (1 + dptN n (el l v).fKids), by omega, by rw [tk_el h1, List.foldl_append, ← hm]; rfl, by omega, by omega, rfl, rfl⟩ ?_ (by kernel_rfl) (Nat.lt_succ_self _)
   rw [show ((max m (1 + dptN n (el l v).fKids) : Nat) : Int) = max ((m : Nat) : Int) ((1 + dptN n (el l v).fKids : Nat) : Int) by omega]
   exact WK (by kernel_rfl)
  ·have hd : decide (((v : Nat) : Int) < (((l.map aInline).length : Nat) : Int)) = false := decide_eq_false (by omega)
   have hvl : v = l.length := by omega
   subst hvl
   rw [List.take_length] at hm
   have hm2 : m = dptN (n + 1) l := hm
   rw [← hm2]
   refine GO (tn 4 (kb hd z)) (by kernel_rfl) ?_
   refine OUT (tn 2 z) (by kernel_rfl) ?_
   exact eN
end Go.Proofs.YthbpjmogdonlkaaGreatDoor
namespace Go.CE
inductive D8 where | d0 | d1 | d2 | d3 | d4 | d5 | d6 | d7
 deriving DecidableEq
structure N (α : Type) where
 a0 : α
 a1 : α
 a2 : α
 a3 : α
 a4 : α
 a5 : α
 a6 : α
 a7 : α
noncomputable def sel {α : Type} (k : D8) (t : N α) : α := D8.rec t.a0 t.a1 t.a2 t.a3 t.a4 t.a5 t.a6 t.a7 k
noncomputable def upd {α : Type} (k : D8) (x : α) (t : N α) : N α := N.rec (fun a0 a1 a2 a3 a4 a5 a6 a7 => D8.rec (N.mk x a1 a2 a3 a4 a5 a6 a7) (N.mk a0 x a2 a3 a4 a5 a6 a7) (N.mk a0 a1 x a3 a4 a5 a6 a7) (N.mk a0 a1 a2 x a4 a5 a6 a7) (N.mk a0 a1 a2 a3 x a5 a6 a7) (N.mk a0 a1 a2 a3 a4 x a6 a7) (N.mk a0 a1 a2 a3 a4 a5 x a7) (N.mk a0 a1 a2 a3 a4 a5 a6 x) k) t
noncomputable def dg (n : Nat) : D8 := Nat.rec .d0 (fun m0 _ => Nat.rec .d1 (fun m1 _ => Nat.rec .d2 (fun m2 _ => Nat.rec .d3 (fun m3 _ => Nat.rec .d4 (fun m4 _ => Nat.rec .d5 (fun m5 _ => Nat.rec .d6 (fun m6 _ => .d7) m5) m4) m3) m2) m1) m0) (n % 8)
def D8.n : D8 → Nat
 | .d0 => 0
 | .d1 => 1
 | .d2 => 2
 | .d3 => 3
 | .d4 => 4
 | .d5 => 5
 | .d6 => 6
 | .d7 => 7
def same (j k : D8) : Bool := match j, k with
 | .d0, .d0 => true
 | .d1, .d1 => true
 | .d2, .d2 => true
 | .d3, .d3 => true
 | .d4, .d4 => true
 | .d5, .d5 => true
 | .d6, .d6 => true
 | .d7, .d7 => true
 | _, _ => false
def full {α : Type} (x : α) : N α := ⟨x, x, x, x, x, x, x, x⟩
theorem same_iff (j k : D8) : same j k = true ↔ j = k := by cases j <;> cases k <;> simp [same]
theorem sel_upd {α : Type} (k j : D8) (x : α) (t : N α) : sel j (upd k x t) = if j = k then x else sel j t := by
 cases k <;> cases j <;> first | (rw [if_pos rfl]; rfl) | (rw [if_neg (by intro h; cases h)]; rfl)
theorem sel_full {α : Type} (k : D8) (x : α) : sel k (full x) = x := by cases k <;> rfl
theorem dg_n (n : Nat) : (dg n).n = n % 8 := by
 have h : n % 8 < 8 := Nat.mod_lt _ (by decide)
 unfold dg
 generalize n % 8 = m at h
 match m, h with
 | 0, _ => rfl
 | 1, _ => rfl
 | 2, _ => rfl
 | 3, _ => rfl
 | 4, _ => rfl
 | 5, _ => rfl
 | 6, _ => rfl
 | 7, _ => rfl
theorem D8.inj {j k : D8} (h : j.n = k.n) : j = k := by cases j <;> cases k <;> first | rfl | (simp [D8.n] at h)
theorem dg_inj {j k : Nat} : dg j = dg k ↔ j % 8 = k % 8 := by
 constructor
 ·intro h; have := congrArg D8.n h; rwa [dg_n, dg_n] at this
 ·intro h; exact D8.inj (by rw [dg_n, dg_n]; exact h)
structure ID where
 a : D8
 b : D8
 c : D8
 d : D8
 e : D8
 deriving DecidableEq
def ID.n (i : ID) : Nat := (((i.a.n * 8 + i.b.n) * 8 + i.c.n) * 8 + i.d.n) * 8 + i.e.n
def ID.same (i j : ID) : Bool := match CE.same i.e j.e, CE.same i.d j.d, CE.same i.c j.c, CE.same i.b j.b, CE.same i.a j.a with
 | true, true, true, true, true => true
 | _, _, _, _, _ => false
theorem ID.same_iff (i j : ID) : i.same j = true ↔ i = j := by
 obtain ⟨a, b, c, d, e⟩ := i
 obtain ⟨a', b', c', d', e'⟩ := j
 simp only [ID.same, ID.mk.injEq]
 constructor
 ·intro h
  split at h
  ·rename_i h1 h2 h3 h4 h5
   exact ⟨(CE.same_iff _ _).1 h5, (CE.same_iff _ _).1 h4, (CE.same_iff _ _).1 h3, (CE.same_iff _ _).1 h2, (CE.same_iff _ _).1 h1⟩
  ·cases h
 ·rintro ⟨rfl, rfl, rfl, rfl, rfl⟩
  simp only [(CE.same_iff _ _).2 rfl]
def nxt : D8 → Option D8
 | .d0 => some .d1
 | .d1 => some .d2
 | .d2 => some .d3
 | .d3 => some .d4
 | .d4 => some .d5
 | .d5 => some .d6
 | .d6 => some .d7
 | .d7 => none
theorem nxt_n {k j : D8} (h : nxt k = some j) : j.n = k.n + 1 := by cases k <;> simp [nxt] at h <;> subst h <;> rfl
theorem nxt_last {k : D8} (h : nxt k = none) : k.n = 7 := by cases k <;> simp [nxt] at h; rfl
def inc (i : ID) : Option ID := match nxt i.e with
 | some e => some ⟨i.a, i.b, i.c, i.d, e⟩
 | none => match nxt i.d with
  | some d => some ⟨i.a, i.b, i.c, d, .d0⟩
  | none => match nxt i.c with
   | some c => some ⟨i.a, i.b, c, .d0, .d0⟩
   | none => match nxt i.b with
    | some b => some ⟨i.a, b, .d0, .d0, .d0⟩
    | none => match nxt i.a with
     | some a => some ⟨a, .d0, .d0, .d0, .d0⟩
     | none => none
theorem d0n : D8.n .d0 = 0 := rfl
theorem inc_n {i j : ID} (h : inc i = some j) : j.n = i.n + 1 := by
 obtain ⟨a, b, c, d, e⟩ := i
 simp only [inc] at h
 split at h
 ·rename_i h1
  simp only [Option.some.injEq] at h; subst h
  have q1 := nxt_n h1
  simp only [ID.n]; omega
 rename_i h1
 have l1 := nxt_last h1
 split at h
 ·rename_i h2
  simp only [Option.some.injEq] at h; subst h
  have q2 := nxt_n h2
  simp only [ID.n, d0n]; omega
 rename_i h2
 have l2 := nxt_last h2
 split at h
 ·rename_i h3
  simp only [Option.some.injEq] at h; subst h
  have q3 := nxt_n h3
  simp only [ID.n, d0n]; omega
 rename_i h3
 have l3 := nxt_last h3
 split at h
 ·rename_i h4
  simp only [Option.some.injEq] at h; subst h
  have q4 := nxt_n h4
  simp only [ID.n, d0n]; omega
 rename_i h4
 have l4 := nxt_last h4
 split at h
 ·rename_i h5
  simp only [Option.some.injEq] at h; subst h
  have q5 := nxt_n h5
  simp only [ID.n, d0n]; omega
 ·cases h
inductive CVal where
 | v (x : Value)
 | b (x : Bool)
 | i (k : IntKind) (n : Int)
 | s (l : List Nat)
 | p (b : ID) (o : Nat)
 | sl (b : ID) (o n sz : Nat)
 | mp (b : ID)
 | fn (f : Fn) (first captured : List CVal)
 | ag (l : List CVal)
 | tu (l : List CVal)
 | ifc (t : TypeId) (x : CVal)
 | yl (b : ID)
 | junk
abbrev Loc := ID → Option (Nat × Nat × Nat)
def str (l : List Nat) : ByteArray := ⟨(l.map UInt8.ofNat).toArray⟩
mutual
def VR (ρ : Loc) : CVal → Value → Prop
 | .v x, u => u = x ∧ x.oneCell' = true
 | .b x, u => u = .bool x
 | .i k n, u => u = .int k n
 | .s l, u => u = .string (str l) ∧ ∀ x ∈ l, x < 256
 | .p b o, u => ∃ blk off room, ρ b = some (blk, off, room) ∧ u = .pointer (some ⟨blk, off + o, none⟩)
 | .sl b o n sz, u => ∃ blk off room cap ad, ρ b = some (blk, off, room) ∧ u = .slice (some ad) n cap ∧ n ≤ cap ∧ (0 < cap → ad = ⟨blk, off + o, none⟩ ∧ o + cap * sz ≤ room)
 | .mp b, u => ∃ blk off room, ρ b = some (blk, off, room) ∧ u = .map (some blk)
 | .fn f fs cs, u => ∃ us ws, u = .func f us ws ∧ VRs ρ fs us.toList ∧ VRs ρ cs ws.toList
 | .ag l, u => ∃ us, u = .agg us ∧ VRs ρ l us.toList ∧ ∀ x ∈ us.toList, x.oneCell' = true
 | .tu l, u => ∃ us, u = .tuple us ∧ VRs ρ l us.toList
 | .ifc t x, u => ∃ y, u = .iface t y ∧ VR ρ x y
 | .yl b, u => ∃ blk off room, ρ b = some (blk, off, room) ∧ u = .func (.yield blk) #[] #[]
 | .junk, _ => True
def VRs (ρ : Loc) : List CVal → List Value → Prop
 | [], us => us = []
 | x :: l, us => ∃ u us', us = u :: us' ∧ VR ρ x u ∧ VRs ρ l us'
end
def Sub (ρ ρ' : Loc) : Prop := ∀ i x, ρ i = some x → ρ' i = some x
theorem Sub.refl (ρ : Loc) : Sub ρ ρ := fun _ _ h => h
mutual
theorem VR.mono {ρ ρ' : Loc} (h : Sub ρ ρ') : ∀ (c : CVal) (u : Value), VR ρ c u → VR ρ' c u
 | .v x, u, k => by simp only [VR] at k ⊢; exact k
 | .b x, u, k => by simp only [VR] at k ⊢; exact k
 | .i _ _, u, k => by simp only [VR] at k ⊢; exact k
 | .s _, u, k => by simp only [VR] at k ⊢; exact k
 | .p b o, u, k => by simp only [VR] at k ⊢; obtain ⟨blk, off, room, h1, h2⟩ := k; exact ⟨blk, off, room, h _ _ h1, h2⟩
 | .sl b o n sz, u, k => by simp only [VR] at k ⊢; obtain ⟨blk, off, room, cap, ad, h1, h2⟩ := k; exact ⟨blk, off, room, cap, ad, h _ _ h1, h2⟩
 | .mp b, u, k => by simp only [VR] at k ⊢; obtain ⟨blk, off, room, h1, h2⟩ := k; exact ⟨blk, off, room, h _ _ h1, h2⟩
 | .fn f fs cs, u, k => by
  simp only [VR] at k ⊢
  obtain ⟨us, ws, h1, h2, h3⟩ := k
  exact ⟨us, ws, h1, VRs.mono h fs _ h2, VRs.mono h cs _ h3⟩
 | .ag l, u, k => by simp only [VR] at k ⊢; obtain ⟨us, h1, h2, h3⟩ := k; exact ⟨us, h1, VRs.mono h l _ h2, h3⟩
 | .tu l, u, k => by simp only [VR] at k ⊢; obtain ⟨us, h1, h2⟩ := k; exact ⟨us, h1, VRs.mono h l _ h2⟩
 | .ifc t x, u, k => by simp only [VR] at k ⊢; obtain ⟨y, h1, h2⟩ := k; exact ⟨y, h1, VR.mono h x y h2⟩
 | .yl b, u, k => by simp only [VR] at k ⊢; obtain ⟨blk, off, room, h1, h2⟩ := k; exact ⟨blk, off, room, h _ _ h1, h2⟩
 | .junk, _, _ => by simp only [VR]
theorem VRs.mono {ρ ρ' : Loc} (h : Sub ρ ρ') : ∀ (l : List CVal) (us : List Value), VRs ρ l us → VRs ρ' l us
 | [], us, k => by simp only [VRs] at k ⊢; exact k
 | x :: l, us, k => by
  simp only [VRs] at k ⊢
  obtain ⟨u, us', h1, h2, h3⟩ := k
  exact ⟨u, us', h1, VR.mono h x u h2, VRs.mono h l us' h3⟩
end
theorem VRs.length {ρ : Loc} : ∀ {l : List CVal} {us : List Value}, VRs ρ l us → us.length = l.length
 | [], _, h => by simp only [VRs] at h; simp [h]
 | x :: l, us, h => by simp only [VRs] at h; obtain ⟨u, us', rfl, _, h3⟩ := h; simp [VRs.length h3]
theorem VRs.get {ρ : Loc} : ∀ {l : List CVal} {us : List Value}, VRs ρ l us → ∀ (i : Nat) x, l[i]? = some x → ∃ u, us[i]? = some u ∧ VR ρ x u
 | [], _, _, i, x, hx => by simp at hx
 | y :: l, us, h, i, x, hx => by
  simp only [VRs] at h
  obtain ⟨u, us', rfl, h2, h3⟩ := h
  cases i with
  | zero => simp at hx; subst hx; exact ⟨u, rfl, h2⟩
  | succ i => simp at hx; obtain ⟨v, hv, hr⟩ := VRs.get h3 i x hx; exact ⟨v, by simpa using hv, hr⟩
theorem VRs.append {ρ : Loc} : ∀ {l l' : List CVal} {us us' : List Value}, VRs ρ l us → VRs ρ l' us' → VRs ρ (l ++ l') (us ++ us')
 | [], _, _, _, h, h' => by simp only [VRs] at h; subst h; simpa using h'
 | x :: l, l', us, us', h, h' => by
  simp only [VRs] at h
  obtain ⟨u, us1, rfl, h2, h3⟩ := h
  simp only [List.cons_append, VRs]
  exact ⟨u, us1 ++ us', rfl, h2, VRs.append h3 h'⟩
theorem VRs.take {ρ : Loc} : ∀ {l : List CVal} {us : List Value} (n : Nat), VRs ρ l us → VRs ρ (l.take n) (us.take n)
 | [], us, n, h => by simp only [VRs] at h; subst h; simp [VRs]
 | x :: l, us, 0, h => by simp [VRs]
 | x :: l, us, n + 1, h => by
  simp only [VRs] at h
  obtain ⟨u, us1, rfl, h2, h3⟩ := h
  simp only [List.take_succ_cons, VRs]
  exact ⟨u, us1.take n, rfl, h2, VRs.take n h3⟩
theorem VRs.drop {ρ : Loc} : ∀ {l : List CVal} {us : List Value} (n : Nat), VRs ρ l us → VRs ρ (l.drop n) (us.drop n)
 | [], us, n, h => by simp only [VRs] at h; subst h; simp [VRs]
 | x :: l, us, 0, h => by simpa using h
 | x :: l, us, n + 1, h => by
  simp only [VRs] at h
  obtain ⟨u, us1, rfl, h2, h3⟩ := h
  simpa using VRs.drop n h3
theorem VRs.set {ρ : Loc} : ∀ {l : List CVal} {us : List Value} (n : Nat) {x : CVal} {u : Value}, VRs ρ l us → VR ρ x u → VRs ρ (l.set n x) (us.set n u)
 | [], us, n, x, u, h, _ => by simp only [VRs] at h; subst h; simp [VRs]
 | y :: l, us, 0, x, u, h, hx => by
  simp only [VRs] at h
  obtain ⟨v, us1, rfl, h2, h3⟩ := h
  simp only [List.set_cons_zero, VRs]
  exact ⟨u, us1, rfl, hx, h3⟩
 | y :: l, us, n + 1, x, u, h, hx => by
  simp only [VRs] at h
  obtain ⟨v, us1, rfl, h2, h3⟩ := h
  simp only [List.set_cons_succ, VRs]
  exact ⟨v, us1.set n u, rfl, h2, VRs.set n h3 hx⟩
def CVal.one : CVal → Bool
 | .ag _ => false
 | .tu _ => false
 | .junk => false
 | _ => true
theorem VR.one {ρ : Loc} {c : CVal} {u : Value} (h : VR ρ c u) (hc : c.one = true) : u.oneCell' = true ∧ u.cells = #[u] := by
 have key : ∀ x : Value, x.oneCell' = true → x.oneCell' = true ∧ x.cells = #[x] := fun x hx => ⟨hx, by cases x <;> simp_all [Value.cells, Value.oneCell']⟩
 cases c with
 | v x => simp only [VR] at h; obtain ⟨rfl, h⟩ := h; exact key _ h
 | b x => simp only [VR] at h; subst h; exact key _ rfl
 | i k n => simp only [VR] at h; subst h; exact key _ rfl
 | s l => simp only [VR] at h; obtain ⟨rfl, _⟩ := h; exact key _ rfl
 | p b o => simp only [VR] at h; obtain ⟨_, _, _, _, rfl⟩ := h; exact key _ rfl
 | sl b o n sz => simp only [VR] at h; obtain ⟨_, _, _, _, _, _, rfl, _⟩ := h; exact key _ rfl
 | mp b => simp only [VR] at h; obtain ⟨_, _, _, _, rfl⟩ := h; exact key _ rfl
 | fn f fs cs => simp only [VR] at h; obtain ⟨_, _, rfl, _⟩ := h; exact key _ rfl
 | ifc t x => simp only [VR] at h; obtain ⟨_, rfl, _⟩ := h; exact key _ rfl
 | yl b => simp only [VR] at h; obtain ⟨_, _, _, _, rfl⟩ := h; exact key _ rfl
 | ag l => simp [CVal.one] at hc
 | tu l => simp [CVal.one] at hc
 | junk => simp [CVal.one] at hc
def CVal.cells : CVal → Option (List CVal)
 | .ag l => some l
 | .tu _ => none
 | .junk => none
 | c => some [c]
theorem VR.cells {ρ : Loc} {c : CVal} {u : Value} {l : List CVal} (h : VR ρ c u) (hl : c.cells = some l) : VRs ρ l u.cells.toList ∧ ∀ x ∈ u.cells.toList, x.oneCell' = true := by
 have key : c.one = true → l = [c] → VRs ρ l u.cells.toList ∧ ∀ x ∈ u.cells.toList, x.oneCell' = true := by
  rintro h1 rfl
  obtain ⟨h2, h3⟩ := h.one h1
  rw [h3]
  exact ⟨by simp only [VRs]; exact ⟨u, [], rfl, h, rfl⟩, by simpa using h2⟩
 cases c with
 | ag l' => simp [CVal.cells] at hl; subst hl; simp only [VR] at h; obtain ⟨us, rfl, h2, h3⟩ := h; exact ⟨h2, h3⟩
 | tu l' => simp [CVal.cells] at hl
 | junk => simp [CVal.cells] at hl
 | _ => simp only [CVal.cells, Option.some.injEq] at hl; exact key rfl hl.symm
abbrev Fr1 := N (N CVal)
abbrev Fr2 := N (N (N CVal))
abbrev CT := N (N (N CVal))
inductive CObj where
 | no
 | cells (e : TypeId) (len fz : Nat) (t : CT)
 | map (ks vs : List CVal)
 | iter (s : List Nat) (pos : Nat)
 | loop (st : LoopState) (pd : Option Code) (lo : Fr1) (hi : Fr2) (nt : Nat) (params : List Tmp) (assign body : Code) (df : ID)
 | dfr
abbrev HT := N (N (N (N (N CObj))))
noncomputable def hget (H : HT) (i : ID) : CObj := sel i.e (sel i.d (sel i.c (sel i.b (sel i.a H))))
noncomputable def hput (H : HT) (i : ID) (o : CObj) : HT := upd i.a (upd i.b (upd i.c (upd i.d (upd i.e o (sel i.d (sel i.c (sel i.b (sel i.a H))))) (sel i.c (sel i.b (sel i.a H)))) (sel i.b (sel i.a H))) (sel i.a H)) H
def h0 : HT := full (full (full (full (full .no))))
theorem hget_hput (H : HT) (i j : ID) (o : CObj) : hget (hput H i o) j = if j = i then o else hget H j := by
 obtain ⟨a, b, c, d, e⟩ := i
 obtain ⟨a', b', c', d', e'⟩ := j
 simp only [hget, hput, ID.mk.injEq]
 by_cases h1 : a' = a
 ·subst h1
  by_cases h2 : b' = b
  ·subst h2
   by_cases h3 : c' = c
   ·subst h3
    by_cases h4 : d' = d
    ·subst h4
     by_cases h5 : e' = e
     ·subst h5; simp [sel_upd]
     ·simp [sel_upd, h5]
    ·simp [sel_upd, h4]
   ·simp [sel_upd, h3]
  ·simp [sel_upd, h2]
 ·simp [sel_upd, h1]
theorem hget_h0 (i : ID) : hget h0 i = .no := by simp [hget, h0, sel_full]
noncomputable def cget (t : CT) (o : Nat) : CVal := sel (dg o) (sel (dg (o / 8)) (sel (dg (o / 64)) t))
noncomputable def cput (t : CT) (o : Nat) (x : CVal) : CT := upd (dg (o / 64)) (upd (dg (o / 8)) (upd (dg o) x (sel (dg (o / 8)) (sel (dg (o / 64)) t))) (sel (dg (o / 64)) t)) t
def c0 : CT := full (full (full .junk))
theorem cget_cput (t : CT) (o j : Nat) (x : CVal) (ho : o < 512) (hj : j < 512) : cget (cput t o x) j = if j = o then x else cget t j := by
 simp only [cget, cput]
 by_cases h1 : dg (j / 64) = dg (o / 64)
 ·rw [h1, sel_upd, if_pos rfl]
  by_cases h2 : dg (j / 8) = dg (o / 8)
  ·rw [h2, sel_upd, if_pos rfl, sel_upd]
   rw [dg_inj] at h1 h2
   by_cases h3 : dg j = dg o
   ·rw [if_pos h3]; rw [dg_inj] at h3; rw [if_pos (by omega)]
   ·rw [if_neg h3, if_neg (by rintro rfl; exact h3 rfl)]
  ·rw [sel_upd, if_neg h2, if_neg (by rintro rfl; exact h2 rfl)]
 ·rw [sel_upd, if_neg h1, if_neg (by rintro rfl; exact h1 rfl)]
inductive K where
 | lo (a b : D8)
 | hi (a b c : D8)
 deriving DecidableEq
noncomputable def slot (t : Nat) : K := match Nat.blt t 64 with
 | true => .lo (dg (t / 8)) (dg t)
 | false => .hi (dg ((t - 64) / 64)) (dg ((t - 64) / 8)) (dg (t - 64))
noncomputable def fget (lo : Fr1) (hi : Fr2) : K → CVal
 | .lo a b => sel b (sel a lo)
 | .hi a b c => sel c (sel b (sel a hi))
noncomputable def putLo (lo : Fr1) (x : CVal) : K → Fr1
 | .lo a b => upd a (upd b x (sel a lo)) lo
 | .hi _ _ _ => lo
noncomputable def putHi (hi : Fr2) (x : CVal) : K → Fr2
 | .lo _ _ => hi
 | .hi a b c => upd a (upd b (upd c x (sel b (sel a hi))) (sel a hi)) hi
theorem slot_inj {t u : Nat} (ht : t < 576) (hu : u < 576) (h : slot t = slot u) : t = u := by
 unfold slot at h
 cases h1 : Nat.blt t 64 <;> cases h2 : Nat.blt u 64 <;> rw [h1, h2] at h <;> simp only [K.lo.injEq, K.hi.injEq, dg_inj, reduceCtorEq] at h
 ·have q1 : ¬ t < 64 := by intro q; rw [← Nat.blt_eq] at q; rw [q] at h1; cases h1
  have q2 : ¬ u < 64 := by intro q; rw [← Nat.blt_eq] at q; rw [q] at h2; cases h2
  omega
 ·have q1 : t < 64 := by rw [← Nat.blt_eq]; exact h1
  have q2 : u < 64 := by rw [← Nat.blt_eq]; exact h2
  omega
theorem fget_put (lo : Fr1) (hi : Fr2) (x : CVal) (j k : K) : fget (putLo lo x k) (putHi hi x k) j = if j = k then x else fget lo hi j := by
 cases j with
 | lo a b =>
  cases k with
  | lo a' b' =>
   simp only [fget, putLo, sel_upd, K.lo.injEq]
   by_cases h1 : a = a'
   ·subst h1
    by_cases h2 : b = b'
    ·simp [sel_upd, h2]
    ·simp [sel_upd, h2]
   ·simp [h1]
  | hi a' b' c' => simp [fget, putLo]
 | hi a b c =>
  cases k with
  | lo a' b' => simp [fget, putHi]
  | hi a' b' c' =>
   simp only [fget, putHi, sel_upd, K.hi.injEq]
   by_cases h1 : a = a'
   ·subst h1
    by_cases h2 : b = b'
    ·subst h2
     by_cases h3 : c = c'
     ·simp [sel_upd, h3]
     ·simp [sel_upd, h3]
    ·simp [sel_upd, h2]
   ·simp [h1]
def ZT (e : Nat) : Bool := match Nat.beq e 80 with
 | true => true
 | false => Nat.beq e 5
def ObjR (ρ : Loc) (w : World) (blk off room : Nat) : CObj → Prop
 | .no => False
 | .cells e len fz t => ∃ arr lo hi, w.heap[blk]? = some (.cells arr e (lo, hi)) ∧ (hi ≤ off + fz ∧ (ZT e = true → off = 0)) ∧ off + room ≤ arr.size ∧ len ≤ room ∧ len ≤ 512 ∧ ∀ j, j < len → ∃ u, arr[off + j]? = some u ∧ VR ρ (cget t j) u ∧ u.oneCell' = true
 | .map ks vs => ∃ ents clock, w.heap[blk]? = some (.map ents clock) ∧ VRs ρ ks (ents.toList.map (·.key)) ∧ VRs ρ vs (ents.toList.map (·.val)) ∧ ∀ e ∈ ents.toList, e.born < clock
 | .iter s pos => off = 0 ∧ w.heap[blk]? = some (.stringIter (str s) pos) ∧ ∀ x ∈ s, x < 256
 | .loop st pd lo hi nt params assign body df => ∃ L : Loop, w.heap[blk]? = some (.loop L) ∧ L.state = st ∧ L.pending = pd ∧ (∀ t, t < 576 → VR ρ (fget lo hi (slot t)) (L.tmps.getD t undef)) ∧ (L.tmps.size = nt ∧ nt ≤ 576) ∧ L.params.toList = params ∧ L.assign = assign ∧ L.body = body ∧ ∃ b o r, ρ df = some (b, o, r) ∧ L.defers = b
 | .dfr => w.heap[blk]? = some (.deferred (some []))
abbrev Mem := ID → CObj
structure HR (ρ : Loc) (M : Mem) (w : World) : Prop where
 obj : ∀ i, M i ≠ .no → ∃ blk off room, ρ i = some (blk, off, room) ∧ ObjR ρ w blk off room (M i)
 inj : ∀ i j x y, M i ≠ .no → M j ≠ .no → i ≠ j → ρ i = some x → ρ j = some y → x.1 ≠ y.1
theorem ObjR.lt {ρ : Loc} {w : World} {blk off room : Nat} {o : CObj} (h : ObjR ρ w blk off room o) : blk < w.heap.size := by
 have key : ∀ x, w.heap[blk]? = some x → blk < w.heap.size := fun x hx => (Array.getElem?_eq_some_iff.1 hx).1
 cases o with
 | no => exact h.elim
 | cells e len fz t => obtain ⟨arr, lo, hi, h1, _⟩ := h; exact key _ h1
 | map ks vs => obtain ⟨_, _, h1, _⟩ := h; exact key _ h1
 | iter s pos => exact key _ h.2.1
 | loop st pd lo hi nt params assign body df => obtain ⟨_, h1, _⟩ := h; exact key _ h1
 | dfr => exact key _ h
theorem ObjR.mono {ρ ρ' : Loc} {w w' : World} {blk off room : Nat} {o : CObj} (hs : Sub ρ ρ') (hw : w'.heap[blk]? = w.heap[blk]?) (h : ObjR ρ w blk off room o) : ObjR ρ' w' blk off room o := by
 cases o with
 | no => exact h
 | cells e len fz t =>
  obtain ⟨arr, lo, hi, h1, h0, h2, h3, h5, h4⟩ := h
  refine ⟨arr, lo, hi, by rw [hw]; exact h1, h0, h2, h3, h5, fun j hj => ?_⟩
  obtain ⟨u, g2, g3, g4⟩ := h4 j hj
  exact ⟨u, g2, VR.mono hs _ _ g3, g4⟩
 | map ks vs =>
  obtain ⟨ents, clock, h1, h2, h3, h4⟩ := h
  exact ⟨ents, clock, by rw [hw]; exact h1, VRs.mono hs _ _ h2, VRs.mono hs _ _ h3, h4⟩
 | iter s pos => exact ⟨h.1, by rw [hw]; exact h.2.1, h.2.2⟩
 | loop st pd lo hi nt params assign body df =>
  obtain ⟨L, h1, h2, h3, h4, h5, h6, h7, h8, b, o, r, h9, h10⟩ := h
  exact ⟨L, by rw [hw]; exact h1, h2, h3, fun t ht => VR.mono hs _ _ (h4 t ht), h5, h6, h7, h8, b, o, r, hs _ _ h9, h10⟩
 | dfr => show w'.heap[blk]? = _; rw [hw]; exact h
def Free (ρ : Loc) (n n' : ID) : Prop := ∀ i : ID, n.n ≤ i.n → i.n < n'.n → ρ i = none
theorem Free.left {ρ : Loc} {n m k : ID} (h : Free ρ n k) (hm : m.n ≤ k.n) : Free ρ n m := fun i h1 h2 => h i h1 (by omega)
structure Ev (ρ : Loc) (M : Mem) (n : ID) (w : World) (ρ' : Loc) (M' : Mem) (n' : ID) (w' : World) : Prop where
 le : n.n ≤ n'.n
 size : w.heap.size ≤ w'.heap.size
 os : w'.os = w.os
 tape : w'.tape = w.tape
 output : w'.output = w.output
 same : ∀ i : ID, i.n < n.n ∨ n'.n ≤ i.n → ρ' i = ρ i
 out : ∀ b, b < w.heap.size → (∀ i x, M i ≠ .no → ρ i = some x → x.1 ≠ b) → w'.heap[b]? = w.heap[b]?
 img : ∀ i x, M' i ≠ .no → ρ' i = some x → (∃ j x', M j ≠ .no ∧ ρ j = some x' ∧ x'.1 = x.1) ∨ w.heap.size ≤ x.1
 nam : ∀ i : ID, M' i ≠ .no → M i ≠ .no ∨ (n.n ≤ i.n ∧ i.n < n'.n)
theorem Ev.sub {ρ ρ' : Loc} {M M' : Mem} {n n' : ID} {w w' : World} (h : Ev ρ M n w ρ' M' n' w') (hf : Free ρ n n') : Sub ρ ρ' := by
 intro i x hx
 by_cases hi : n.n ≤ i.n ∧ i.n < n'.n
 ·rw [hf i hi.1 hi.2] at hx; cases hx
 ·rw [h.same i (by omega)]; exact hx
theorem Ev.refl (ρ : Loc) (M : Mem) (n : ID) (w : World) : Ev ρ M n w ρ M n w := ⟨Nat.le_refl _, Nat.le_refl _, rfl, rfl, rfl, fun _ _ => rfl, fun _ _ _ => rfl, fun i x h k => .inl ⟨i, x, h, k, rfl⟩, fun i h => .inl h⟩
theorem Ev.trans {ρ ρ' ρ'' : Loc} {M M' M'' : Mem} {n n' n'' : ID} {w w' w'' : World} (h : Ev ρ M n w ρ' M' n' w') (k : Ev ρ' M' n' w' ρ'' M'' n'' w'') : Ev ρ M n w ρ'' M'' n'' w'' := by
 have h1 := h.le
 have h2 := k.le
 refine ⟨by omega, Nat.le_trans h.size k.size, k.os.trans h.os, k.tape.trans h.tape, k.output.trans h.output, fun i hi => ?_, fun b hb hn => ?_, fun i x hi hx => ?_, fun i hi => ?_⟩
 ·rw [k.same i (by omega), h.same i (by omega)]
 ·have h1 := h.out b hb hn
  have h2 := k.out b (Nat.lt_of_lt_of_le hb h.size) (fun i x hi hx => by
   rcases h.img i x hi hx with ⟨j, x', hj, hx', he⟩ | hge
   ·rw [← he]; exact hn j x' hj hx'
   ·omega)
  exact h2.trans h1
 ·rcases k.img i x hi hx with ⟨j, x', hj, hx', he⟩ | hge
  ·rcases h.img j x' hj hx' with ⟨m, x2, hm, hx2, he2⟩ | hge
   ·exact .inl ⟨m, x2, hm, hx2, he2.trans he⟩
   ·right; omega
  ·right; have := h.size; omega
 ·rcases k.nam i hi with hm | hm
  ·rcases h.nam i hm with hq | hq
   ·exact .inl hq
   ·right; omega
  ·right; omega
theorem Free.right {ρ ρ' : Loc} {M M' : Mem} {n n' n'' : ID} {w w' : World} (hf : Free ρ n n'') (h : Ev ρ M n w ρ' M' n' w') : Free ρ' n' n'' := fun i h1 h2 => by
 have := h.le
 rw [h.same i (.inr h1)]; exact hf i (by omega) h2
theorem HR.less {ρ : Loc} {M M' : Mem} {w : World} (h : HR ρ M w) (hs : ∀ i, M' i ≠ .no → M' i = M i) : HR ρ M' w :=
 ⟨fun i hi => by rw [hs i hi]; exact h.obj i (by rw [← hs i hi]; exact hi), fun i j x y hi hj hne hx hy => h.inj i j x y (by rw [← hs i hi]; exact hi) (by rw [← hs j hj]; exact hj) hne hx hy⟩
theorem frame_obj {ρ ρ' : Loc} {M M' : Mem} {n n' : ID} {w w' : World} (h : Ev ρ M n w ρ' M' n' w') (hf : Free ρ n n') {i : ID} {x : Nat × Nat × Nat} (hx : ρ i = some x) {o : CObj} (ho : ObjR ρ w x.1 x.2.1 x.2.2 o) (hn : ∀ j y, M j ≠ .no → ρ j = some y → y.1 ≠ x.1) : ObjR ρ' w' x.1 x.2.1 x.2.2 o :=
 ObjR.mono (h.sub hf) (h.out x.1 ho.lt hn) ho
theorem HR.frame {ρ ρ' : Loc} {M M' N : Mem} {n n' : ID} {w w' : World} (h : HR ρ N w) (hs : ∀ i, M i ≠ .no → N i = M i) (hev : Ev ρ M n w ρ' M' n' w') (hf : Free ρ n n') (hr : HR ρ' M' w') :
  HR ρ' (fun i => match M' i with | .no => (match M i with | .no => N i | _ => .no) | o => o) w' := by
 have key : ∀ i, M' i = .no → M i = .no → N i ≠ .no → ∃ blk off room, ρ' i = some (blk, off, room) ∧ ρ i = some (blk, off, room) ∧ ObjR ρ' w' blk off room (N i) ∧ blk < w.heap.size ∧ ∀ j y, M j ≠ .no → ρ j = some y → y.1 ≠ blk := by
  intro i h1 h2 h3
  obtain ⟨blk, off, room, h4, h5⟩ := h.obj i h3
  have h6 : ∀ j y, M j ≠ .no → ρ j = some y → y.1 ≠ blk := fun j y hj hy => h.inj j i y (blk, off, room) (by rw [hs j hj]; exact hj) h3 (by rintro rfl; exact hj h2) hy h4
  exact ⟨blk, off, room, hev.sub hf i _ h4, h4, frame_obj hev hf (x := (blk, off, room)) h4 h5 h6, h5.lt, h6⟩
 have cases3 : ∀ i, (match M' i with | .no => (match M i with | .no => N i | _ => .no) | o => o) ≠ CObj.no → (M' i ≠ .no ∧ (match M' i with | .no => (match M i with | .no => N i | _ => .no) | o => o) = M' i) ∨ (M' i = .no ∧ M i = .no ∧ N i ≠ .no ∧ (match M' i with | .no => (match M i with | .no => N i | _ => .no) | o => o) = N i) := by
  intro i hi
  cases h1 : M' i with
  | no =>
   rw [h1] at hi
   cases h2 : M i with
   | no => rw [h2] at hi; exact .inr ⟨rfl, rfl, hi, rfl⟩
   | _ => rw [h2] at hi; exact (hi rfl).elim
  | _ => exact .inl ⟨by simp, rfl⟩
 refine ⟨fun i hi => ?_, fun i j x y hi hj hne hx hy => ?_⟩
 ·rcases cases3 i hi with ⟨h1, h2⟩ | ⟨h1, h2, h3, h4⟩
  ·rw [h2]; exact hr.obj i h1
  ·rw [h4]
   obtain ⟨blk, off, room, k1, _, k2, _⟩ := key i h1 h2 h3
   exact ⟨blk, off, room, k1, k2⟩
 ·have mixed : ∀ i j x y, M' i ≠ .no → M' j = .no → M j = .no → N j ≠ .no → ρ' i = some x → ρ' j = some y → x.1 ≠ y.1 := by
   intro i j x y h1 h2 h3 h4 hx hy
   obtain ⟨blk, off, room, k1, k0, k2, k3, k4⟩ := key j h2 h3 h4
   rw [k1] at hy; cases hy
   rcases hev.img i x h1 hx with ⟨m, x', hm, hx', he⟩ | hge
   ·rw [← he]; exact k4 m x' hm hx'
   ·simp only; omega
  rcases cases3 i hi with ⟨h1, h2⟩ | ⟨h1, h2, h3, h4⟩ <;> rcases cases3 j hj with ⟨g1, g2⟩ | ⟨g1, g2, g3, g4⟩
  ·exact hr.inj i j x y h1 g1 hne hx hy
  ·exact mixed i j x y h1 g1 g2 g3 hx hy
  ·exact (mixed j i y x g1 h1 h2 h3 hy hx).symm
  ·obtain ⟨b1, o1, r1, k1, k0, _⟩ := key i h1 h2 h3
   obtain ⟨b2, o2, r2, q1, q0, _⟩ := key j g1 g2 g3
   rw [k1] at hx; cases hx
   rw [q1] at hy; cases hy
   exact h.inj i j _ _ h3 g3 hne k0 q0
structure St where
 lo : Fr1
 hi : Fr2
 hp : HT
 nx : ID
 df : List ID
 rd : Option ID
def markOf (b : Nat) : Deferred := { target := .collected b, args := #[] }
def Marks (ρ : Loc) : List ID → List Deferred → Prop
 | [], ds => ds = []
 | i :: l, ds => ∃ b o r ds', ρ i = some (b, o, r) ∧ ds = markOf b :: ds' ∧ Marks ρ l ds'
theorem Marks.mono {ρ ρ' : Loc} (h : Sub ρ ρ') : ∀ {l : List ID} {ds : List Deferred}, Marks ρ l ds → Marks ρ' l ds
 | [], _, k => k
 | i :: l, ds, k => by
  obtain ⟨b, o, r, ds', h1, h2, h3⟩ := k
  exact ⟨b, o, r, ds', h _ _ h1, h2, h3.mono h⟩
structure CR (ρ : Loc) (nt : Nat) (S : St) (w : World) (a : Act) : Prop where
 hr : HR ρ (hget S.hp) w
 fr : ∀ t, t < 576 → VR ρ (fget S.lo S.hi (slot t)) (a.tmps.getD t undef)
 size : a.tmps.size = nt
 small : nt ≤ 576
 marks : Marks ρ S.df a.defers
noncomputable def St.putK (S : St) (k : K) (v : CVal) : St := ⟨putLo S.lo v k, putHi S.hi v k, S.hp, S.nx, S.df, S.rd⟩
noncomputable def St.put (S : St) (d : Option Tmp) (v : CVal) : St := match d with
 | some d => S.putK (slot d) v
 | none => S
def dstOk (d : Option Tmp) (n : Nat) : Bool := match d with
 | some d => Nat.blt d n
 | none => true
theorem CR.put {ρ : Loc} {nt : Nat} {S : St} {w : World} {a : Act} {v : CVal} {u : Value} (h : CR ρ nt S w a) (d : Option Tmp) (hd : dstOk d nt = true) (hv : VR ρ v u) : CR ρ nt (S.put d v) w (a.put d u) := by
 cases d with
 | none => exact h
 | some d =>
  have hd' : @LT.lt Nat _ d nt := by simpa [dstOk, Nat.blt_eq] using hd
  have hsm := h.small
  refine ⟨h.hr, fun t ht => ?_, by simp [Act.put, h.size], h.small, h.marks⟩
  simp only [St.put, St.putK]
  rw [fget_put]
  simp only [Act.put, Array.getD_eq_getD_getElem?, Array.getElem?_setIfInBounds]
  by_cases hdt : d = t
  ·subst hdt
   rw [if_pos rfl, if_pos rfl, if_pos (by rw [h.size]; exact hd')]; exact hv
  ·rw [if_neg (fun e => hdt (slot_inj (by omega) (by omega) e.symm)), if_neg hdt]
   have := h.fr t ht
   simpa [Array.getD_eq_getD_getElem?] using this
end Go.CE
