/- Texts joined by a program (merge.py). -/
import Derived.Test.YthbpjmogdonlkaaGreatDoorMwb
import Derived.Test.YthbpjmogdonlkaaGreatDoorMwd
import Derived.Lib.Builder
import Derived.Lib.UnsafeStr
import Derived.Lib.AppendStr
import Derived.WalkKit
import Derived.Laws.Externs
import Derived.RegionTactic
import Derived.KernelRfl
import Derived.Test.YthbpjmogdonlkaaGreatDoorMwe
import Derived.Lib.OthersKept
set_option linter.unusedSimpArgs false
set_option linter.unusedVariables false
set_option maxRecDepth 100000
set_option maxHeartbeats 4000000
open Int renaming toNat_natCast -> Za
open List renaming not_mem_nil -> Zb
open List renaming length_cons -> Zc
open List renaming mem_cons -> Zd
open Nat renaming lt_succ_self -> Ze
open List renaming length_map -> Zf
open List renaming length_append -> Zg
open List renaming take_of_length_le -> Zh
open List renaming foldl_append -> Zi
open List renaming exists_cons_of_length_pos -> Zj
open List renaming getElem?_eq_getElem -> Zk
open List renaming take_succ_eq_append_getElem -> Zl
open ByteArray renaming size_append -> Zm
open List renaming foldl_cons -> Zn
open Nat renaming le_refl -> Zo
open List renaming length_nil -> Zp
open List renaming cons_append -> Zq
open List renaming append_assoc -> Zr
open ByteArray renaming mk -> Zs
open ByteArray renaming append_assoc -> Zt
open List renaming length_take -> Zu
open List renaming getD_eq_getElem?_getD -> Zv
open List renaming foldl_nil -> Zw
open Nat renaming zero_add -> Zx
open List renaming mem_map -> Zy
open List renaming take_append_drop -> Zz
open List renaming drop_eq_getElem_cons -> Z0
open List renaming map_append -> Z1
open List renaming getElem?_map -> Z2
open List renaming length_singleton -> Z3
open Array renaming getElem?_modify -> Z4
open List renaming take_length -> Z5
open List renaming range -> Z6
open Array renaming toList_inj -> Z7
open List renaming map_cons -> Z8
open List renaming nil_append -> Z9
namespace Go.Proofs.YthbpjmogdonlkaaGreatDoor
open Go Go.Eng Go.RowKit
theorem n_bsize : (Tryz.prog.info? 80).map (·.size) = some 2 := by kernel_rfl
theorem n_blies : liesAt Tryz.prog Tryz.prog.depth 80 (2 / Tryz.prog.cellsOf 80) 0 80 1 = true := by kernel_rfl
theorem n_bcells : Tryz.prog.cellsOf 5 = 1 := by kernel_rfl
set_option maxHeartbeats 1000000 in
theorem Vid (b : Nat) (w : World) (h0 : w.cell? ⟨b, 0, none⟩ = some (.pointer (some ⟨b, 0, none⟩))) :
  Calls Tryz.prog 83 #[.pointer (some ⟨b, 0, none⟩)] w fun e w' => e = .returned (.tuple #[]) /\ w' = w := by
 obtain ⟨j, hj, _⟩ := Option.map_eq_some_iff.1 n_bsize
 go_enter Tryz.func83, Tryz.ntmps83
 go_wp2
 rw [Lib.run_neq_ptr_same w _ Tryz.underlying78 hj]
 go_wp2
 go_end0
 exact ⟨rfl, rfl⟩
set_option maxHeartbeats 1000000 in
theorem Vhi (b : Nat) (w : World) (h0 : w.cell? ⟨b, 0, none⟩ = some (.pointer none)) (hsh : w.shape? b = some (80, 2)) (hfz : w.frozen? ⟨b, 0, none⟩ = false) :
  Calls Tryz.prog 83 #[.pointer (some ⟨b, 0, none⟩)] w fun e w' => e = .returned (.tuple #[]) /\ w' = w.setCell ⟨b, 0, none⟩ (.pointer (some ⟨b, 0, none⟩)) := by
 obtain ⟨j, hj, hjs⟩ := Option.map_eq_some_iff.1 n_bsize
 go_enter Tryz.func83, Tryz.ntmps83
 go_wp2
 rw [Lib.run_to_unsafe w ⟨b, 0, none⟩ Tryz.underlying78 Tryz.underlying174 hj (by rw [hjs]; decide) hsh (Nat.zero_lt_succ 1)]; simp only [Result.andThen]; rw [Oper.upon_value]
 go_wp2
 rw [run_callFunc_extern Tryz.func126 (by kernel_rfl) (by kernel_rfl) (by kernel_rfl) (e := Extern.AbiNoEscape.same) (by kernel_rfl)]; rw [Lib.run_noEscape]; simp only [Result.andThen]; rw [Oper.upon_value]
 go_wp2
 rw [Lib.run_from_unsafe w ⟨b, 0, none⟩ Tryz.underlying174 Tryz.underlying78 hj hsh n_blies]; simp only [Result.andThen]; rw [Oper.upon_value]
 go_wp2
 go_end0
 exact ⟨rfl, rfl⟩
theorem lies_off {P : Program} {e : TypeId} (hc : P.cellsOf e = 1) (count off n : Nat) (hn : off + n <= count) : liesAt P P.depth e count off e n = true := by
 have hd : P.depth = (2 * (P.types.size + Made.depth) + 1) + 1 := rfl; rw [hd]; simp only [liesAt, Bool.or_eq_true]; left; rw [hd]; simp [rowAt, hc, hn, sameLayout, Nat.mod_one]
theorem Voe {P : Program} {w : World} (pt it ty e : TypeId) (hp : P.underlying pt = some (.pointer e)) (hc : P.cellsOf e = 1) (g off cells : Nat) (hsh : w.shape? g = some (e, cells)) (l : List UInt8) (h0 : l ≠ []) (hn : off + l.length <= cells) (h63 : l.length <= 9223372036854775807)
  (hcell : ∀ j x, l[j]? = some x -> w.cell? ((⟨g, off, none⟩ : Addr).add j) = some (.int .u8 x.toNat)) :
  (Builtin.unsafeString_ #[pt, it] ty #[.pointer (some ⟨g, off, none⟩), .int .i64 l.length]).run P w = .ok (.string ⟨l.toArray⟩) (w.freeze ⟨g, off, none⟩ l.length) := by
 have hl : l.length ≠ 0 := by simpa using h0
 have hlb := Lib.run_loadBytes (P := P) (w := w) l ⟨g, off, none⟩ .empty hcell
 have hlies := lies_off (P := P) hc (cells / P.cellsOf e) off l.length (by rw [hc]; simpa using hn)
 have h63' : ¬ (9223372036854775807 : Int) < (l.length : Int) := by omega
 have hdef : Builtin.unsafeString_ #[pt, it] ty #[.pointer (some ⟨g, off, none⟩), .int .i64 l.length] =
   (do
    let n <- asInt (.int .i64 l.length)
    if n < 0 then runtimePanic (.error "unsafe.String: len out of range")
    if n > IntKind.i64.max then unsupported (.unsafePointer "String: a length above the largest int")
    if n = 0 then pure (.string .empty)
    else if <- variablesAt ⟨g, off, none⟩ (<- elemOf pt) n.toNat then do
     let s <- loadBytes ⟨g, off, none⟩ .empty n.toNat
     freeze ⟨g, off, none⟩ n.toNat
     pure (.string s)
    else unsupported (.unsafePointer "String: not so many bytes at ptr")) := rfl
 rw [hdef]
 have hmax : IntKind.i64.max = 9223372036854775807 := rfl
 have hneg : ¬ (l.length : Int) < 0 := by omega
 simp [asInt, asIntOf, hmax, h63', hneg, hl, variablesAt, hsh, elemOf, run_underlying hp, hlies, hlb]
set_option maxHeartbeats 1000000 in
theorem Vqd (b g off n cap : Nat) (p : Value) (cur : Array Value) (l : List UInt8) (w : World) (h0 : l ≠ []) (hn : n = l.length) (hcap : l.length <= cap) (hcs : off + l.length <= cur.size) (h63 : l.length <= 9223372036854775807)
  (hbk : w.heap[b]? = some (.cells #[p, .slice (some ⟨g, off, none⟩) n cap] 80 (0, 0))) (hg : w.heap[g]? = some (.cells cur 5 (0, 0))) (hcell : ∀ j x, l[j]? = some x -> w.cell? ⟨g, off + j, none⟩ = some (.int .u8 x.toNat)) :
  Calls Tryz.prog 38 #[.pointer (some ⟨b, 0, none⟩)] w fun e w' => e = .returned (.string ⟨l.toArray⟩) /\ w'.heap = (w.freeze ⟨g, off, none⟩ l.length).heap /\ w'.os = w.os /\ w'.tape = w.tape /\ w'.output = w.output := by
 subst hn
 have hl0 : l.length ≠ 0 := by simpa using h0
 have c1 : w.drew.cell? ⟨b, 1, none⟩ = some (.slice (some ⟨g, off, none⟩) l.length cap) := by
  have : w.drew.heap[b]? = some (.cells #[p, .slice (some ⟨g, off, none⟩) l.length cap] 80 (0, 0)) := hbk; rw [Lib.cell_of_heap this]; rfl
 have hSD : (Builtin.unsafeSliceData_ #[33] 132 #[.slice (some ⟨g, off, none⟩) l.length cap]).run Tryz.prog w.drew = .ok (.pointer (some ⟨g, off, none⟩)) w.drew :=
  Lib.run_unsafeSliceData_row _ _ _ _ _ _ (by omega)
 have hUS : (Builtin.unsafeString_ #[132, 3] 9 #[.pointer (some ⟨g, off, none⟩), .int .i64 l.length]).run Tryz.prog w.drew = .ok (.string ⟨l.toArray⟩) (w.drew.freeze ⟨g, off, none⟩ l.length) := by
  refine Voe 132 3 9 5 Tryz.underlying132 n_bcells g off cur.size (by have hg' : w.drew.heap[g]? = some (.cells cur 5 (0, 0)) := hg; simp [World.shape?, hg']) l h0 hcs h63 ?_; intro j x hx; rw [addr_add]; exact hcell j x hx
 clear hbk hg hcell hcs hcap
 go_enter Tryz.func38, Tryz.ntmps38
 go_wp2
 go_region
 all_goals (go_wp2; go_ret; refine ⟨rfl, ?_⟩; unfold World.freeze; rw [if_neg hl0, if_neg hl0]; exact ⟨rfl, rfl, rfl, rfl⟩)
theorem step_owned {G : Gh} {w w' : World} (hw : Wf G w) {id blk : Nat} (ho : G.ow (id, 0) = some blk) (hU : G.U blk = 0) (hsz : w'.heap.size = w.heap.size) (hos : w'.os = w.os) (htp : w'.tape = w.tape) (hout : w'.output = w.output) (hoth : ∀ k, k ≠ blk -> w'.heap[k]? = w.heap[k]?) :
  Step G w G w' /\ Wf G w' /\ ∀ κ', κ' ≠ (id, 0) -> Keep G w G w' κ' := by
 have hkp : ∀ κ', κ' ≠ (id, 0) -> Keep G w G w' κ' := fun κ' hk' => ⟨rfl, fun b hb => ⟨hoth b (fun he => by subst he; exact hk' (hw.inj κ' (id, 0) b hb ho)), rfl⟩⟩
 refine ⟨⟨⟨fun b => Zo _, imm_of (fun b hb => hoth b (fun he => by subst he; omega)), by omega, hos, by rw [htp], hout, fun _ _ => rfl, fun _ => Zo _, fun κ h0 _ => hkp κ (by intro e; rw [e] at h0; simp at h0)⟩, fun b hb hn => ⟨hoth b (fun he => hn _ (he ▸ ho)), rfl⟩, fun κ b h => .inl ⟨κ, h⟩⟩, ⟨hw.inj, fun κ b h => ?_, fun b hb => ?_⟩, hkp⟩
 ·rw [hsz]; exact hw.lt κ b h
 ·exact hw.zero b (by omega)
theorem two_of {G : Gh} {w : World} {x y : SV} {arr : Array Value} (h : RepSs G w [x, y] arr.toList) : ∃ u v, arr = #[u, v] /\ RepS G w x u /\ RepS G w y v := by
 obtain ⟨u, us, h1, h2, v, us', h3, h4, h5⟩ := h; simp only [RepSs] at h5; subst h5 h3; refine ⟨u, v, ?_, h2, h4⟩; apply Array.ext'; rw [h1]
theorem Vhz (c0 s : SV) (hc : c0 = .av (.val (.pointer none)) \/ c0 = .ptr 1000 0) (hs : s.keys = []) : CallTo Tryz.prog 83 [.ptr 1000 0] [(1000, .cells 80 [c0, s])] [] j0 [(1000, .cells 80 [.ptr 1000 0, s])] [] := by
 refine ⟨⟨_, Tryz.func83, by kernel_rfl, by kernel_rfl⟩, fun G w vs hw hargs hbx _ => ?_⟩; obtain ⟨u, us', rfl, ⟨blk, ho, rfl⟩, hnil⟩ := hargs; simp only [RepSs] at hnil; subst hnil; obtain ⟨blk', arr, g1, g2, g3, g4, g5⟩ := hbx (1000, .cells 80 [c0, s]) (by simp); simp only at g1; rw [ho] at g1; simp at g1; subst g1; obtain ⟨v0, v1, rfl, r0, r1⟩ := two_of g4
 have hc0 : w.cell? ⟨blk, 0, none⟩ = some v0 := by rw [Lib.cell_of_heap g2]; rfl
 have htup : ∀ (G : Gh) (w : World), RepS G w j0 (.tuple #[]) := fun G w => by simp only [RepS, Rep]; exact ⟨#[], rfl, by simp [RepL]⟩
 rcases hc with rfl | rfl
 ·simp only [RepS, Rep] at r0; obtain ⟨rfl, _⟩ := r0
  have hlt := hw.lt _ _ ho; refine (Vhi blk w hc0 (by simp [World.shape?, g2]) (Lib.frozen_of_heap g2 0)).mono ?_; rintro e w' ⟨rfl, rfl⟩
  have hh : (w.setCell ⟨blk, 0, none⟩ (.pointer (some ⟨blk, 0, none⟩))).heap[blk]? = some (.cells #[.pointer (some ⟨blk, 0, none⟩), v1] 80 (0, 0)) := by
   simp [World.setCell, Z4, g2]
  obtain ⟨s1, s2, s3⟩ := step_owned (w' := w.setCell ⟨blk, 0, none⟩ (.pointer (some ⟨blk, 0, none⟩))) hw ho g3 (by simp [World.setCell]) rfl rfl rfl (fun k hk => by simp [World.setCell, Z4, Ne.symm hk]); refine ⟨.tuple #[], G, rfl, s1, s2, htup _ _, fun p hp => ?_, fun i hi => s3 (i, 0) (by intro e; apply hi; have := congrArg Prod.fst e; simp at this; subst this; simp), fun _ _ => rfl, fun _ => rfl⟩; simp at hp; subst hp; refine ⟨blk, _, ho, hh, g3, ⟨_, _, rfl, ⟨blk, ho, rfl⟩, _, [], rfl, r1.persist s1.toExt (fun _ _ => rfl), rfl⟩, ?_⟩; intro x hx; simp at hx g5; rcases hx with rfl | rfl
  ·rfl
  ·exact g5.2
 ·obtain ⟨blk2, ho2, rfl⟩ := r0; rw [ho] at ho2; simp at ho2; subst ho2; refine (Vid blk w hc0).mono ?_; rintro e w' ⟨rfl, rfl⟩; refine ⟨.tuple #[], G, rfl, Step.refl _ _, hw, htup _ _, fun p hp => ?_, fun i hi => ⟨rfl, fun _ _ => ⟨rfl, rfl⟩⟩, fun _ _ => rfl, fun _ => rfl⟩; simp at hp; subst hp; exact ⟨blk, _, ho, g2, g3, g4, g5⟩
theorem Ve8 (s : SV) (hs : s.keys = []) : CallTo Tryz.prog 83 [.ptr 1000 0] [(1000, .cells 80 [.son 1000, s])] [] j0 [(1000, .cells 80 [.son 1000, s])] [] := by
 have hn := Vhz (.av (.val (.pointer none))) s (.inl rfl) hs
 have hp := Vhz (.ptr 1000 0) s (.inr rfl) hs; refine ⟨hn.1, fun G w vs hw hargs hbx hg => ?_⟩
 have hb0 := hbx (1000, .cells 80 [.son 1000, s]) (by simp); obtain ⟨blk', arr, g1, g2, g3, g4, g5⟩ := hb0; obtain ⟨v0, v1, rfl, r0, r1⟩ := two_of g4
 have post : Calls Tryz.prog 83 vs.toArray w (fun e w' => ∃ v G', e = .returned v /\ Step G w G' w' /\ Wf G' w' /\ RepS G' w' j0 v /\ (∀ p ∈ [(1000, ABox.cells 80 [.ptr 1000 0, s])], RepB G' w' p.1 p.2) /\
   (∀ i : Nat, i ∉ [(1000, ABox.cells 80 [.ptr 1000 0, s])].map (·.1) -> Keep G w G' w' (i, 0)) /\ (∀ i, i ∉ Vay [(1000, ABox.cells 80 [.ptr 1000 0, s])] -> G'.ow (i, 0) = G.ow (i, 0)) /\ ∀ κ : Key, G'.gen κ = (([] : List (Key × Nat)).lookup κ).getD (G.gen κ)) := by
  rcases r0 with rfl | ⟨blk, h1, rfl⟩
  ·exact hn.2 G w vs hw hargs (fun p hp => by simp at hp; subst hp; exact ⟨blk', _, g1, g2, g3, ⟨_, _, rfl, by simp only [RepS, Rep]; exact ⟨trivial, rfl⟩, _, [], rfl, r1, rfl⟩, g5⟩) hg
  ·exact hp.2 G w vs hw hargs (fun p hp => by simp at hp; subst hp; exact ⟨blk', _, g1, g2, g3, ⟨_, _, rfl, ⟨blk, h1, rfl⟩, _, [], rfl, r1, rfl⟩, g5⟩) hg
 refine post.mono ?_; rintro e w' ⟨v, G', q1, q2, q3, q4, q5, q6, q7, q8⟩; refine ⟨v, G', q1, q2, q3, q4, fun p hp => ?_, q6, q7, q8⟩; simp at hp; subst hp; obtain ⟨b2, arr2, e1, e2, e3, e4, e5⟩ := q5 (1000, .cells 80 [.ptr 1000 0, s]) (by simp); obtain ⟨u0, u1, rfl, f0, f1⟩ := two_of e4; exact ⟨b2, _, e1, e2, e3, ⟨_, _, rfl, .inr f0, _, [], rfl, f1, rfl⟩, e5⟩
theorem Vgt {U : Nat -> Nat} {w : World} : ∀ (l : List UInt8) (es : List Value), RepL U w (l.map (fun b => AV.val (.int .u8 b.toNat))) es -> es = l.map (fun b => Value.int .u8 b.toNat)
 | [], es, h => by simpa [RepL] using h
 | b :: l, es, h => by
  simp only [Z8, RepL] at h; obtain ⟨u, us', rfl, h2, h3⟩ := h; simp only [Rep] at h2; rw [h2.1, Vgt l us' h3]; rfl
theorem Vgs (c0 : SV) (k : Nat) (g : Nat) (s : ByteArray) (h0 : 0 < s.size) (h63 : s.size <= 9223372036854775807) :
  CallTo Tryz.prog 38 [.ptr 1000 0] [(1000, .cells 80 [c0, .own (k, 6) g 1 (Va2 s)])] [((k, 6), g)] (.av (.val (.string s))) [(1000, .cells 80 [c0, .av (.sl (Va2 s))])] [((k, 6), g + 1)] := by
 refine ⟨⟨_, Tryz.func38, by kernel_rfl, by kernel_rfl⟩, fun G w vs hw hargs hbx hgn => ?_⟩; obtain ⟨u, us', rfl, ⟨blk, ho, rfl⟩, hnil⟩ := hargs; simp only [RepSs] at hnil; subst hnil; obtain ⟨blk', arr, g1, g2, g3, g4, g5⟩ := hbx (1000, .cells 80 [c0, .own (k, 6) g 1 (Va2 s)]) (by simp); simp only at g1; rw [ho] at g1; simp at g1; subst g1
 have hgen : G.gen (k, 6) = g := hgn ((k, 6), g) (by simp); obtain ⟨v0, v1, rfl, r0, r1⟩ := two_of g4
 have rsl := r1.own_sl; obtain ⟨_, _, a, cap, es, rfl, q2, q3, q4, qn, qsp, q5, q6⟩ := r1
 have hlen : (Va2 s).length = s.size := by simp [Va2]
 have hes := Vgt s.data.toList es q2
 have hvc : Va0 es = es := Vfe es (fun v hv => by rw [hes] at hv; simp at hv; obtain ⟨b, _, rfl⟩ := hv; rfl); rcases q6 hgen with hcap0 | ⟨gb, off, cur, e, rfl, o1, o2, o3, o4, o5⟩
 ·rw [hlen] at q4; exact absurd h0 (by omega)
 ·have he : e = 5 := by simpa using o5
  subst he
  have hne : gb ≠ blk := fun h => by
   have := hw.inj (k, 6) (1000, 0) blk (by rw [<- h]; exact o1) ho; simp at this
  have hl0 : s.data.toList ≠ [] := by intro h; have h1 := congrArg List.length h; rw [show s.data.toList.length = s.size by simp] at h1; simp only [Zp] at h1; exact absurd h1 (Nat.ne_of_gt h0)
  have hll : s.data.toList.length = s.size := by simp
  refine (Vqd blk gb off (Va2 s).length cap v0 cur s.data.toList w hl0 (by rw [hlen, hll]) (by rw [hll, <- hlen]; exact q4) (by rw [hll]; simp only [Nat.mul_one] at o3; rw [hlen] at q4; omega) (by rw [hll]; exact h63) g2 o2 (fun j x hx => ?_)).mono ?_
  ·rcases q5 with h | ⟨b', off', h1, h2, h3⟩
   ·rw [hvc, hes] at h; simp at h; exact absurd h (by simpa using hl0)
   ·simp at h1; obtain ⟨rfl, rfl⟩ := h1
    have := (h3 j (.int .u8 x.toNat) (by rw [hvc, hes]; simp [hx])).1; simpa using this
  ·rintro e w' ⟨rfl, hh, hos, htp, hout⟩
   have hfz : w'.heap = w.heap.modify gb (fun | .cells c elem (lo, hi) => .cells c elem (if lo == hi then (off, off + s.data.toList.length) else (min lo off, max hi (off + s.data.toList.length))) | o => o) := by
    rw [hh]; unfold World.freeze; rw [if_neg (by rw [hll]; omega)]; rfl
   have hoth : ∀ i, i ≠ gb -> w'.heap[i]? = w.heap[i]? := fun i hi => by rw [hfz, Z4, if_neg (Ne.symm hi)]
   have hsize : w'.heap.size = w.heap.size := by rw [hfz]; simp
   obtain ⟨fz, hgb⟩ : ∃ fz, w'.heap[gb]? = some (.cells cur 5 fz) := by rw [hfz, Z4, if_pos rfl, o2]; exact ⟨_, rfl⟩
   have hcell : ∀ b o, w'.cell? ⟨b, o, none⟩ = w.cell? ⟨b, o, none⟩ := fun b o => by
    by_cases hb : b = gb
    ·subst hb; simp [World.cell?, hgb, o2]
    ·exact cell_of_heap (hoth b hb) o
   have himm : Imm G.U w w' := ⟨fun b o _ => hcell b o, fun b es' cl _ hm => by
    have : b ≠ gb := by intro h; subst h; rw [o2] at hm; simp at hm
    rw [hoth b this]; exact hm⟩
   have hkp : ∀ κ, κ ≠ (k, 6) -> Keep G w { G with gen := fun κ => if κ = (k, 6) then G.gen κ + 1 else G.gen κ } w' κ := fun κ hκ => ⟨rfl, fun b hb => ⟨hoth b (fun h => by subst h; exact hκ (hw.inj κ (k, 6) b hb o1)), rfl⟩⟩
   have hext : Ext G w { G with gen := fun κ => if κ = (k, 6) then G.gen κ + 1 else G.gen κ } w' := by
    refine ⟨fun _ => Zo _, himm, by omega, hos, by rw [htp], hout, fun _ _ => rfl, fun κ => ?_, fun κ _ hg => hkp κ (fun h => ?_)⟩
    ·simp only; split <;> omega
    ·subst h; simp at hg
   refine ⟨.string ⟨s.data.toList.toArray⟩, { G with gen := fun κ => if κ = (k, 6) then G.gen κ + 1 else G.gen κ }, rfl, ⟨hext, fun b _ hn => ⟨hoth b (fun h => hn (k, 6) (by rw [h]; exact o1)), rfl⟩, fun κ b h => .inl ⟨κ, h⟩⟩,
    ⟨hw.inj, fun κ b h => by rw [hsize]; exact hw.lt κ b h, fun b hb => hw.zero b (by omega)⟩, ?_, fun p hp => ?_, fun i hi => hkp (i, 0) (by simp), fun _ _ => rfl, fun κ => ?_⟩
   ·simp only [RepS, Rep]; exact ⟨by simp, rfl⟩
   ·simp at hp; subst hp; refine ⟨blk, _, ho, by rw [hoth blk (Ne.symm hne)]; exact g2, g3, ⟨_, _, rfl, r0.persist hext (fun κ hκ => ?_), _, [], rfl, Rep.mono (fun _ => Zo _) himm _ _ rsl, rfl⟩, g5⟩; rfl
   ·simp only [List.lookup_cons, List.lookup_nil]
    by_cases hk : κ = (k, 6)
    ·subst hk; simp [hgen]
    ·have : (κ == (k, 6)) = false := by simpa using hk
     simp [this, hk]
end Go.Proofs.YthbpjmogdonlkaaGreatDoor
namespace Go.Proofs.YthbpjmogdonlkaaGreatDoor
open Go Go.Eng
def bldA (t : ByteArray) (g : Nat) : ABox := .cells 80 [.son 1000, .own (1300, 6) g 1 (Va2 t)]
def bldG (g : Nat) : List (Key × Nat) := [((1300, 6), g)]
theorem Vcg (s : ByteArray) : (Va2 s).length = s.size := by simp [Va2]
def u8 (c : Int) : UInt8 := c.toNat.toUInt8
theorem Vly (t : ByteArray) (c : Int) (hc : 0 <= c /\ c < 256) : Va2 t ++ [.val (.int .u8 c)] = Va2 (t.push (u8 c)) := by
 have e : ((u8 c).toNat : Int) = c := by
  unfold u8
  have : c.toNat.toUInt8.toNat = c.toNat := by
   rw [Nat.toUInt8, UInt8.toNat_ofNat']; omega
  omega
 simp only [Va2, ByteArray.push, Array.toList_push, Z1, Z8, List.map_nil, e]
theorem Vl8 (t : ByteArray) (g g' : Nat) (h : g = g') : ∀ p ∈ [(1000, bldA t g)], ∀ s ∈ p.2.svs, OkSV [1000] (bldG g') s := by
 subst h; intro p hp s hs; simp only [Zd, Zb, or_false] at hp; subst hp; simp only [bldA, ABox.svs, Zd, Zb, or_false] at hs; rcases hs with rfl | rfl
 ·simp [OkSV, SV.keys]
 ·simp [OkSV, bldG, List.lookup]
theorem Vqa (t : ByteArray) (c : Int) (g : Nat) (hsz : t.size <= 1073741825) (hc : 0 <= c /\ c < 256) : CallTo Tryz.prog 75 [.ptr 1000 0, .av (.val (.int .u8 c))] [(1000, bldA t g)] (bldG g) (.av (.val .nilIface)) [(1000, bldA (t.push (u8 c)) (g + 1))] (bldG (g + 1)) := by
 refine BEGb (fun _ : Unit => .av (.val .nilIface)) () Tryz.func75 (by kernel_rfl) (by simp) (by simp [bldG]) (by simp [OkSV, SV.keys]) (Vl8 t g g rfl) (by simp [OkSV, SV.keys]) (Vl8 _ _ _ rfl) rfl rfl ?_
 have hu : Uni 1 [(.val (.int .u8 c) : AV)] := by
  intro y hy; simp only [Zd, Zb, or_false] at hy; subst hy; exact ⟨rfl, rfl⟩
 have hap : (g : Nat) = g /\ Uni 1 [(.val (.int .u8 c) : AV)] /\ ((Va2 t : List AV).length + ([(.val (.int .u8 c) : AV)] : List AV).length) * 1 <= 140737488355328 := ⟨rfl, hu, by rw [Vcg]; simp; omega⟩
 refine GO (tn 2 (kg (Ve8 (.own (1300, 6) g 1 (Va2 t)) rfl) trivial (tn 6 (kp hu (kp hap (kw (Vly t c hc) (tn 4 z))))))) (by kernel_rfl) ?_; refine ENb (by kernel_rfl) ?_ ?_
 ·intro p hp; simp only [Zd, Zb, or_false] at hp; subst hp; kernel_rfl
 ·intro p hp; simp only [bldG, Zd, Zb, or_false] at hp; subst hp; kernel_rfl
theorem bytes_cat1 (s t : ByteArray) : Va2 (s ++ t) = Va2 s ++ Va2 t := by simp [Va2]
theorem bytes_uni1 (s : ByteArray) : Uni 1 (Va2 s) := by
 intro y hy; simp only [Va2, Zy] at hy; obtain ⟨b, _, rfl⟩ := hy; exact ⟨rfl, rfl⟩
theorem Vfp (t s : ByteArray) (g : Nat) (hsz : t.size + s.size <= 3000000000) : CallTo Tryz.prog 43 [.ptr 1000 0, jS s] [(1000, bldA t g)] (bldG g) (.av (.tup [.val (.int .i64 ((ByteArray.size s : Nat) : Int)), .val .nilIface])) [(1000, bldA (t ++ s) (g + 1))] (bldG (g + 1)) := by
 refine BEGb (fun _ : Unit => .av (.tup [.val (.int .i64 ((ByteArray.size s : Nat) : Int)), .val .nilIface])) () Tryz.func43 (by kernel_rfl) (by simp) (by simp [bldG]) (by simp [OkSV, SV.keys]) (Vl8 t g g rfl) (by simp [OkSV, SV.keys]) (Vl8 _ _ _ rfl) rfl rfl ?_
 have hap : (g : Nat) = g /\ Uni 1 (Va2 s) /\ ((Va2 t : List AV).length + (Va2 s : List AV).length) * 1 <= 140737488355328 := ⟨rfl, bytes_uni1 s, by rw [Vcg, Vcg]; omega⟩
 refine GO (tn 3 (kg (Ve8 (.own (1300, 6) g 1 (Va2 t)) rfl) trivial (tn 6 (kp hap (kw (show (Va2 t ++ Va2 s : List AV) = Va2 (t ++ s) from (bytes_cat1 t s).symm) (tn 7 z)))))) (by kernel_rfl) ?_; refine ENb (by kernel_rfl) ?_ ?_
 ·intro p hp; simp only [Zd, Zb, or_false] at hp; subst hp; kernel_rfl
 ·intro p hp; simp only [bldG, Zd, Zb, or_false] at hp; subst hp; kernel_rfl
theorem mg0_to : CallTo Tryz.prog 21 [jL []] [] [] (jL []) [] [] := by
 refine bG Tryz.func21 ?_; refine gO (tn 3 z) ?_; refine uN (sx 73 [(0, jL []), (3, .nil), (4, jI 0)] [] []) 1 ?_; refine gO (tn 4 (kb (b := decide ((0 : Int) < ((0 : Nat) : Int))) (d := false) rfl z)) ?_; refine uO (tn 2 z) ?_; exact eN
theorem mgI_to (x : DInline) (hk : x.fKids = []) (ha : Vo2 x.fAttr <= 1073741824) (h1 : x.fArgs.length <= 1073741824) (h2 : x.fCites.length <= 1073741824) : CallTo Tryz.prog 42 [.av (Vaa x)] [] [] (.av (Vaa x)) [] [] := by
 have c1 := cpyT_to x.fAttr ha
 have c2 := clnS_to x.fArgs h1
 have c3 := clnC_to x.fCites h2
 have c4 := mg0_to; obtain ⟨k, t, d, ti, at', ar, ci, ki⟩ := x; simp only at hk; subst hk; refine bG Tryz.func42 ?_; refine gO (tn 4 (kc c1 (tn 4 (kc c2 (tn 4 (kc c3 (tn 4 (kc c4 (tn 4 z))))))))) ?_; exact eN
def mgc (x : DInline) (r : List DInline) : List DInline := match r with
 | [] => [x]
 | y :: q => if x.fKind = 1 /\ y.fKind = 1 then { x with fText := x.fText ++ y.fText } :: q else x :: y :: q
def mgL : List DInline -> List DInline
 | [] => []
 | x :: l => mgc x (mgL l)
theorem Vpz (s : ByteArray) : s ++ (⟨#[]⟩ : ByteArray) = s := by apply ByteArray.ext; simp
theorem nil_ba (s : ByteArray) : (⟨#[]⟩ : ByteArray) ++ s = s := by apply ByteArray.ext; simp
theorem sz0 : ByteArray.size (⟨#[]⟩ : ByteArray) = 0 := rfl
def catT : List DInline -> ByteArray
 | [] => ⟨#[]⟩
 | x :: l => x.fText ++ catT l
theorem catT_snoc (l : List DInline) (x : DInline) : catT (l ++ [x]) = catT l ++ x.fText := by
 induction l with
 | nil => simp only [Z9, catT]; rw [Vpz, nil_ba]
 | cons y l ih => simp [catT, ih, Zt]
theorem mgc_n {x : DInline} {r : List DInline} (h : x.fKind ≠ 1) : mgc x r = x :: r := by
 unfold mgc; cases r with
 | nil => rfl
 | cons y q => simp only; rw [if_neg (fun e => h e.1)]
theorem mg_run (rest : List DInline) (hr : ∀ y q, rest = y :: q -> y.fKind ≠ 1) : ∀ (l : List DInline) (x : DInline), x.fKind = 1 -> (∀ y ∈ l, y.fKind = 1) -> mgL (x :: (l ++ rest)) = { x with fText := x.fText ++ catT l } :: mgL rest := by
 intro l
 induction l with
 | nil =>
  intro x hx _; simp only [Z9, catT]; rw [Vpz]; cases rest with
  | nil => cases x; rfl
  | cons y q =>
   have hy := hr y q rfl
   have e : mgL (x :: y :: q) = x :: mgL (y :: q) := by
    show mgc x (mgc y (mgL q)) = x :: mgc y (mgL q); rw [mgc_n hy]; unfold mgc; simp only; rw [if_neg (fun e => hy e.2)]
   rw [e]; cases x; rfl
 | cons y l ih =>
  intro x hx hl
  have hy := hl y (by simp)
  have := ih y hy (fun w hw => hl w (by simp [hw]))
  show mgc x (mgL (y :: (l ++ rest))) = _; rw [this]; unfold mgc; simp only; rw [if_pos ⟨hx, hy⟩, <- Zt]; simp [catT, Zt]
theorem eqs_sz {s : ByteArray} (h : eqs s ⟨#[]⟩ = true) : s.size = 0 := by
 unfold eqs at h
 have := eq_of_beq h
 have h2 := congrArg List.length this; simpa using h2
structure MgOk (xs : List DInline) : Prop where
 len : xs.length <= 1073741824
 tot : (catT xs).size <= 1073741824
 one : ∀ x ∈ xs, x.fKids = [] /\ Vo2 x.fAttr <= 1073741824 /\ x.fArgs.length <= 1073741824 /\ x.fCites.length <= 1073741824 /\ (x.fKind = 1 -> 0 < x.fText.size)
def KBb : Key := (1300, 6)
def mgS (xs : List DInline) (v n g : Nat) (os : List AV) : St := sx 73 [(0, jL (xs.map Va1)), (3, .vs 3 n), (4, jI ((v : Nat) : Int))] [(3, .vec 42 10 os)] [(KBb, g)]
def mgT (xs : List DInline) (j n g : Nat) (os : List AV) (f : Int) (t : ByteArray) : St := sx 73 [(0, jL (xs.map Va1)), (3, .vs 3 n), (4, jI ((j : Nat) : Int)), (5, jI f), (6, .ptr 6 0)] [(3, .vec 42 10 os), (6, .cells 80 [.son 6, .own KBb g 1 (Va2 t)])] [(KBb, g)]
theorem catT_le (a b : List DInline) : (catT (a ++ b)).size = (catT a).size + (catT b).size := by
 induction a with
 | nil => simp only [Z9, catT, sz0]; omega
 | cons x a ih => simp only [Zq, catT, Zm, ih]; omega
theorem os_push {n : Nat} {os : List AV} {out : List DInline} (hn : n = os.length) (ho : os = out.map Va1) (y : DInline) : os.take n ++ [Vaa y] = (out ++ [y]).map Va1 := by
 subst hn; rw [Z5, ho]; exact ap1_aInline _ _
theorem mg_to (xs : List DInline) (hX : MgOk xs) : Vg5 Tryz.prog 21 [jL (xs.map Va1)] [(3, .vec 42 10 ((mgL xs).map Va1))] (.vs 3 (mgL xs).length) := by
 have hlq := Vak Va1 xs
 have hlen := hX.len; refine BEGn Tryz.func21 (by kernel_rfl) ?_; refine gO (tn 3 z) ?_; refine TELL 3 3 42 10 (by kernel_rfl) ?_; refine LP (n := xs.length + 1) (fun N M S => ∃ (v n g : Nat) (os : List AV) (out : List DInline), v <= xs.length /\ n = os.length /\ os = out.map Va1 /\ out.length <= v /\ out ++ mgL (xs.drop v) = mgL xs /\ xs.length - v < N /\ M = () /\ S = mgS xs v n g os) (by kernel_rfl) ⟨0, 0, 0, [], [], by omega, rfl, rfl, by simp, rfl, by omega, rfl, rfl⟩ (WK (by kernel_rfl)) ?_; rintro n0 M S ⟨v, n, g, os, out, hv, hn, ho, hol, hm, hF0, rfl, rfl⟩; obtain ⟨n0, rfl⟩ : ∃ k, n0 = k + 1 := ⟨n0 - 1, by omega⟩
 have hos : os.length = out.length := by rw [ho, Zf]
 by_cases h1 : v < xs.length
 ·have hd : decide (((v : Nat) : Int) < ((lenM Va1 xs : Nat) : Int)) = true := dT (by omega)
  have hev := Vax xs v h1
  have hxm : el xs v ∈ xs := Vf2 (l := xs) (i := v) h1; obtain ⟨q1, q2, q3, q4, q5⟩ := hX.one _ hxm
  have hdr : xs.drop v = el xs v :: xs.drop (v + 1) := by
   rw [Z0 h1]; simp [el, h1]
  by_cases h2 : (el xs v).fKind = 1
  ·-- a run of texts
   have hk : (((el xs v).fKind : Int) != 1) = false := by rw [h2]; rfl
   refine gO (tn 4 (kb hd (tn 2 (ke hev (tn 3 (kb hk (tn 2 z))))))) ?_; refine RT [(6, 0, .son 6), (6, 1, .own KBb g 1 (Va2 ⟨#[]⟩))] (ac (show (AV.val (.pointer none)) = .val (.pointer none) from rfl) (ac (show (Va2 ⟨#[]⟩ : List AV) = [] /\ 0 < 6 /\ g = g from ⟨rfl, by decide, rfl⟩) an)) (by kernel_rfl) ?_; refine LP (n := xs.length + 1) (fun N M S => ∃ (j g : Nat) (f : Int) (t : ByteArray), v <= j /\ j <= xs.length /\ (∀ k, v <= k -> k < j -> (el xs k).fKind = 1) /\ t = catT ((xs.drop v).take (j - v)) /\ f = (if j = v then -1 else ((v : Nat) : Int)) /\ xs.length - j < N /\ M = () /\ S = mgT xs j n g os f t) (by kernel_rfl) ⟨v, g, -1, ⟨#[]⟩, by omega, by omega, fun k _ _ => by omega, by simp [catT], by simp, by omega, rfl, rfl⟩ (WK (by kernel_rfl)) ?_; rintro n1 M S ⟨j, g, f, t, hj, hj2, hall, ht, hf, hF1, rfl, rfl⟩; obtain ⟨n1, rfl⟩ : ∃ k, n1 = k + 1 := ⟨n1 - 1, by omega⟩
   have htz : t.size + (catT (xs.drop j)).size <= 1073741824 := by
    have e1 := catT_le ((xs.drop v).take (j - v)) ((xs.drop v).drop (j - v)); rw [Zz, List.drop_drop] at e1
    have e2 := catT_le (xs.take v) (xs.drop v); rw [Zz] at e2
    have := hX.tot; rw [ht]; rw [show v + (j - v) = j by omega] at e1; omega
   by_cases h3 : j < xs.length /\ (el xs j).fKind = 1
   ·obtain ⟨h3, h4⟩ := h3
    have hdj : decide (((j : Nat) : Int) < ((lenM Va1 xs : Nat) : Int)) = true := dT (by omega)
    have hej := Vax xs j h3
    have hc1 : cond (decide (((j : Nat) : Int) < ((lenM Va1 xs : Nat) : Int))) (((el xs j).fKind : Int) == 1) false = true := by rw [hdj, h4]; rfl
    obtain ⟨p1, p2, p3, p4, p5⟩ := hX.one _ (Vf2 (l := xs) (i := j) h3)
    have hdj2 : xs.drop j = el xs j :: xs.drop (j + 1) := by
     rw [Z0 h3]; simp [el, h3]
    have hsz : t.size + (el xs j).fText.size <= 3000000000 := by
     rw [hdj2] at htz; simp only [catT, Zm] at htz; omega
    have hcw : CallTo Tryz.prog 43 [.ptr 6 0, jS (el xs j).fText] [(6, .cells 80 [.son 6, .own KBb g 1 (Va2 t)])] [(KBb, g)] (.av (.tup [.val (.int .i64 ((ByteArray.size (el xs j).fText : Nat) : Int)), .val .nilIface])) [(6, .cells 80 [.son 6, .own KBb (g + 1) 1 (Va2 (t ++ (el xs j).fText))])] [(KBb, g + 1)] := Vc6 (by kernel_rfl) (Va3 (Vab (6, 0) (1000, 0) rfl) (Vfp t (el xs j).fText g hsz))
    have hwr := wrE (((j : Nat) : Int) + 1) ((j + 1 : Nat) : Int) (by omega)
    have htn : t ++ (el xs j).fText = catT ((xs.drop v).take (j + 1 - v)) := by
     rw [ht, <- catT_snoc]; congr 1; rw [show j + 1 - v = (j - v) + 1 by omega, Zl (by rw [List.length_drop]; omega)]; congr 1; simp [el, h3, show v + (j - v) = j by omega]
    have hall2 : ∀ k, v <= k -> k < j + 1 -> (el xs k).fKind = 1 := fun k hk1 hk2 => by
     by_cases e : k = j
     ·rw [e]; exact h4
     ·exact hall k hk1 (by omega)
    by_cases h5 : j = v
    ·have hf1 : decide (f < 0) = true := dT (by rw [hf, if_pos h5]; decide)
     have hc2 : cond (decide (f < 0)) (!eqs (el xs j).fText ⟨#[]⟩) false = true := by
      rw [hf1]
      have := p5 h4; cases hb : eqs (el xs j).fText ⟨#[]⟩ with
      | false => rfl
      | true =>
       have := eqs_sz hb; omega
     refine gO (tn 5 (kj (decide (((j : Nat) : Int) < ((lenM Va1 xs : Nat) : Int))) (tn 2 (he (fun _ => hej) (tn 3 z))) z (kb hc1 (tn 3 (kj (decide (f < 0)) (tn 2 (he (fun _ => hej) (tn 3 z))) z (kb hc2 (tn 4 (ke hej (tn 2 (kg hcw (show g = g /\ True from ⟨rfl, trivial⟩) (tn 1 (kn hwr (tn 1 z))))))))))))) ?_; exact AG (m := n1) ⟨j + 1, g + 1, ((j : Nat) : Int), _, by omega, by omega, hall2, htn, by rw [if_neg (by omega), h5], by omega, rfl, rfl⟩ (WK (by kernel_rfl)) (by kernel_rfl) (Ze _)
    ·have hf1 : decide (f < 0) = false := dF (by rw [hf, if_neg h5]; omega)
     have hc2 : cond (decide (f < 0)) (!eqs (el xs j).fText ⟨#[]⟩) false = false := by rw [hf1]; rfl
     refine gO (tn 5 (kj (decide (((j : Nat) : Int) < ((lenM Va1 xs : Nat) : Int))) (tn 2 (he (fun _ => hej) (tn 3 z))) z (kb hc1 (tn 3 (kj (decide (f < 0)) (tn 2 (he (fun _ => hej) (tn 3 z))) z (kb hc2 (tn 2 (ke hej (tn 2 (kg hcw (show g = g /\ True from ⟨rfl, trivial⟩) (tn 1 (kn hwr (tn 1 z))))))))))))) ?_; exact AG (m := n1) ⟨j + 1, g + 1, f, _, by omega, by omega, hall2, htn, by rw [hf, if_neg h5, if_neg (by omega)], by omega, rfl, rfl⟩ (WK (by kernel_rfl)) (by kernel_rfl) (Ze _)
   ·have hc1 : cond (decide (((j : Nat) : Int) < ((lenM Va1 xs : Nat) : Int))) (((el xs j).fKind : Int) == 1) false = false := by
     by_cases h4 : j < xs.length
     ·rw [dT (by omega)]; exact beq_false_of_ne (fun e => h3 ⟨h4, e⟩)
     ·rw [dF (by omega)]; rfl
    have hjv : j ≠ v := fun e => h3 ⟨by omega, by rw [e]; exact h2⟩
    have hf2 : f = ((v : Nat) : Int) := by rw [hf, if_neg hjv]
    subst hf2
    have hf3 : decide (((v : Nat) : Int) >= 0) = true := dT (by omega); obtain ⟨y, hy⟩ : ∃ y : DInline, y = { el xs v with fText := t } := ⟨_, rfl⟩
    have htp : 0 < t.size := by
     rw [ht, hdr, show j - v = (j - v - 1) + 1 by omega, List.take_succ_cons]; simp only [catT, Zm]
     have := q5 h2; omega
    have hcs : CallTo Tryz.prog 38 [.ptr 6 0] [(6, .cells 80 [.son 6, .own KBb g 1 (Va2 t)])] [(KBb, g)] (.av (.val (.string t))) [(6, .cells 80 [.son 6, .av (.sl (Va2 t))])] [(KBb, g + 1)] := Vc6 (by kernel_rfl) (Va3 (Vab (6, 0) (1000, 0) rfl) (Vgs (.son 1000) 1300 g t htp (by omega)))
    have hap : n <= os.length /\ Uni 10 [Vaa y] /\ (n + ([Vaa y] : List AV).length) * 192 <= 140737488355328 := ⟨by omega, uniI _, by simp; omega⟩
    have hmj : mgL (xs.drop v) = y :: mgL (xs.drop j) := by
     have e1 : xs.drop v = el xs v :: (((xs.drop v).take (j - v)).drop 1 ++ xs.drop j) := by
      have : ((xs.drop v).take (j - v)) = el xs v :: ((xs.drop v).take (j - v)).drop 1 := by
       rw [hdr, show j - v = (j - v - 1) + 1 by omega, List.take_succ_cons]; rfl
      rw [<- Zq, <- this]
      conv => lhs; rw [<- Zz (j - v) (xs.drop v)]
      rw [List.drop_drop, show v + (j - v) = j by omega]
     rw [e1, mg_run _ ?_ _ _ h2 ?_, hy, ht]
     ·congr 1; rw [hdr, show j - v = (j - v - 1) + 1 by omega, List.take_succ_cons]; simp [catT]
     ·intro w q hw; rcases Nat.lt_or_ge j xs.length with h4 | h4
      ·intro e; refine h3 ⟨h4, ?_⟩; rw [Z0 h4] at hw
       have := (List.cons.inj hw).1; rw [<- e, <- this]; simp [el, h4]
      ·rw [List.drop_eq_nil_of_le h4] at hw; cases hw
     ·intro w hw
      have hw2 := List.mem_of_mem_drop hw; obtain ⟨k, hk, e⟩ := List.getElem_of_mem hw2; rw [Zu, List.length_drop] at hk; rw [List.getElem_take, List.getElem_drop] at e
      have := hall (v + k) (by omega) (by omega); rw [<- e]; simpa [el, show v + k < xs.length by omega] using this
    refine gO (tn 5 (kj (decide (((j : Nat) : Int) < ((lenM Va1 xs : Nat) : Int))) (tn 2 (he (fun h => Vax xs j (by have := of_decide_eq_true h.2; omega)) (tn 3 z))) z (kb hc1 z))) ?_; subst hy; refine OUT (tn 2 (kb hf3 (tn 2 (ke hev (tn 1 (kc (mgI_to _ q1 q2 q3 q4) (tn 2 (kg hcs (show g = g /\ True from ⟨rfl, trivial⟩) (tn 4 (kp (uniI { el xs v with fText := t }) (kp hap (tn 1 z)))))))))))) (by kernel_rfl) ?_; exact AG (m := n0) ⟨j, n + 1, g + 1, os.take n ++ [Vaa { el xs v with fText := t }], out ++ [{ el xs v with fText := t }], hj2, by simp; omega, os_push hn ho _, by simp; omega, by rw [Zr, List.singleton_append, <- hmj]; exact hm, by omega, rfl, rfl⟩ (WK (by kernel_rfl)) (by kernel_rfl) (Ze _)
  ·-- no text
   have hk : (((el xs v).fKind : Int) != 1) = true := by rw [bne_iff_ne]; exact h2
   have hap : n <= os.length /\ Uni 10 [Vaa (el xs v)] /\ (n + ([Vaa (el xs v)] : List AV).length) * 192 <= 140737488355328 := ⟨by omega, uniI _, by simp; omega⟩
   have hwr := wrE (((v : Nat) : Int) + 1) ((v + 1 : Nat) : Int) (by omega); refine gO (tn 4 (kb hd (tn 2 (ke hev (tn 3 (kb hk (tn 3 (ke hev (tn 1 (kc (mgI_to _ q1 q2 q3 q4) (kp (uniI (el xs v)) (kp hap (tn 2 (kn hwr (tn 1 z))))))))))))))) ?_; exact AG (m := n0) ⟨v + 1, n + 1, g, os.take n ++ [Vaa (el xs v)], out ++ [el xs v], by omega, by simp; omega, os_push hn ho _, by simp; omega, by rw [Zr, List.singleton_append, <- hm, hdr]; congr 1; exact (mgc_n h2).symm, by omega, rfl, rfl⟩ (WK (by kernel_rfl)) (by kernel_rfl) (Ze _)
 ·have hd : decide (((v : Nat) : Int) < ((lenM Va1 xs : Nat) : Int)) = false := dF (by omega)
  have hm2 : out = mgL xs := by
   rw [List.drop_eq_nil_of_le (by omega)] at hm; simpa [mgL] using hm
  rw [<- hm2]; rw [hos] at hn; subst hn ho; refine gO (tn 4 (kb hd z)) ?_; refine OUT (tn 2 z) (by kernel_rfl) ?_; exact eNs
theorem rst0_to (s : SV) : CallTo Tryz.prog 95 [jL [], s] [] [] Vad [] [] := by
 have h : CallTo Tryz.prog 95 [jL [], .junk] [] [] Vad [] [] := by
  refine bGs Tryz.func95 ?_; refine gO (tn 3 z) ?_; refine uN (sx 46 [(8, jI 0), (9, jI 0)] [] []) 1 ?_; refine gO (tn 1 (kb (b := decide ((0 : Int) < (0 : Int))) (d := false) rfl z)) ?_; refine uO z ?_; exact eNs
 refine Vg4 h (fun G w vs hv => ?_); obtain ⟨u, us, h1, h2, u2, us2, h3, _, h5⟩ := hv; exact ⟨u, us, h1, h2, u2, us2, h3, trivial, h5⟩
theorem run_eq_nilI {t : TypeId} {ms : Array (String × TypeId)} (ht : Tryz.prog.underlying t = some (.interface ms)) (w : World) : (binOp .eql t .nilIface .nilIface).run Tryz.prog w = .ok (.bool true) w := by
 have h : (Op.equal t .nilIface .nilIface).run Tryz.prog w = .ok true w := by
  unfold Op.equal; unfold Op.maxDepth; unfold Op.equalIn; simp [run_underlying' ht]
 simp [binOp, h]
noncomputable def isIf (t : TypeId) : Bool := match Tryz.prog.underlying t with
 | some (.interface _) => true
 | _ => false
theorem WO_nilI {ops : Array Oper} {o : Oper} {rest : List Oper} {Q : St -> Prop} {S : St} {t t' : TypeId} {x : Operand} (ho : o.op = .binOp .eql t x (.const .nilIface) t') (hg : o.guard = none) (hti : isIf t = true) (hx : S.ev x = .av (.val .nilIface))
  (h : WO Tryz.prog ops rest Q (S.put o.dst (.av (.val (.bool true))))) : WO Tryz.prog ops (o :: rest) Q S := by
 intro more Q' G w a hr hq; obtain ⟨ms, ht⟩ : ∃ ms, Tryz.prog.underlying t = some (.interface ms) := by
  unfold isIf at hti
  split at hti
  ·rename_i ms h; exact ⟨ms, h⟩
  ·cases hti
 have hxr := hr.ev x; rw [hx] at hxr
 have hu : a.eval x = .nilIface := hxr.1
 have he : (execOp a.eval o).run Tryz.prog w = .ok (.value (.bool true)) w := by
  have e1 := run_eq_nilI ht w
  have e2 : (eqGuard .eql t x (.const .nilIface) .nilIface .nilIface).run Tryz.prog w = .ok () w := by
   unfold eqGuard; simp
  have e3 : a.eval (.const .nilIface) = .nilIface := rfl; simp only [execOp, ho, hu, e3, Sem.run_bind, e2, e1, Result.andThen_ok]; rfl
 simp only [Zq, wpList]; rw [if_pos (Van hg a)]; refine .inl ?_; unfold Oper.wp; rw [he, Oper.upon_value]; exact h more Q' G w _ (hr.put o.dst ⟨rfl, rfl⟩) hq
def rsI (x : DInline) : Nat := ((Lib.atoi x.fText.data.toList).getD 0).toNat
def rst (els : List DElem) (o : Nat) (x : DInline) : DInline := if x.fKind = -1 then (el els (o + rsI x)).fpiece.fInline else x
def RsOk (m : Nat) (l : List DInline) : Prop := ∀ x ∈ l, (x.fKind = -1 /\ rsI x < 100 /\ rsI x < m /\ x.fText = itoa (rsI x)) \/ (x.fKind ≠ -1 /\ x.fKids = [])
def rsB (ls : List DInline) (els : List DElem) : List (Nat × ABox) := [(1003, .vec 42 10 (ls.map Va1)), (1001, .vec 107 21 (els.map Vba))]
def rsS (l : List DInline) (els : List DElem) (o m v : Nat) : St := sx 46 [(0, .vs 1003 l.length), (1, .vw 1001 21 o m), (8, jI ((l.length : Nat) : Int)), (9, jI ((v : Nat) : Int))] (rsB ((l.take v).map (rst els o) ++ l.drop v) els) []
theorem el_ad {l : List DInline} {f : DInline -> DInline} {v : Nat} (h : v < l.length) : el ((l.take v).map f ++ l.drop v) v = el l v := by
 have hl : ((l.take v).map f).length = v := by rw [Zf, Zu]; omega
 unfold el; rw [List.getElem?_append_right (by omega), hl, List.getElem?_drop]; simp
theorem set_ad {l : List DInline} {f : DInline -> DInline} {v : Nat} (h : v < l.length) : ((l.take v).map f ++ l.drop v).set v (f (el l v)) = (l.take (v + 1)).map f ++ l.drop (v + 1) := by
 have hl : ((l.take v).map f).length = v := by rw [Zf, Zu]; omega
 rw [List.set_append_right _ _ (by omega), hl, Nat.sub_self, Z0 h, List.set_cons_zero, Zl h, Z1, Zr]; simp [el, h]
theorem same_ad {l : List DInline} {f : DInline -> DInline} {v : Nat} (h : v < l.length) (hf : f (el l v) = el l v) : (l.take v).map f ++ l.drop v = (l.take (v + 1)).map f ++ l.drop (v + 1) := by
 rw [<- set_ad h, hf, <- el_ad (f := f) h]
 have hl : v < ((l.take v).map f ++ l.drop v).length := by rw [Zg, Zf, Zu, List.length_drop]; omega
 rw [show el ((l.take v).map f ++ l.drop v) v = ((l.take v).map f ++ l.drop v)[v] by simp only [el, hl, Zk, Option.getD_some], List.set_getElem_self]
theorem set_inl (ls : List DInline) (k : Nat) (y : DInline) (hk : k < ls.length) : (ls.map Va1).set k (((ls.map Va1).getD k (.val undef)).upd 0 (Vaa y)) = (ls.set k y).map Va1 := by
 rw [List.map_set]; congr 1; rw [Zv, Z2, Zk hk, Option.map_some, Option.getD_some, Vbf ls[k], Vbf y]; rfl
theorem st_inl (ls : List DInline) (f : Int) (y : DInline) (hf : 0 <= f /\ f < ls.length) : 0 <= f /\ f < (((ls.map Va1).length : Nat) : Int) /\ 0 + 10 <= ((ls.map Va1).getD f.toNat (.val undef)).cells.length /\ ((ls.map Va1).getD f.toNat (.val undef)).isTup = false /\ (Vaa y).isTup = false /\ (Vaa y).cells.length = 10 /\ 0 < 10 := by
 have hk : f.toNat < ls.length := by omega
 have e : (ls.map Va1).getD f.toNat (.val undef) = Va1 ls[f.toNat] := by
  rw [Zv, Z2, Zk hk]; rfl
 rw [e, Vbf]; exact ⟨hf.1, by simpa using hf.2, Zo _, rfl, rfl, rfl, by decide⟩
def rs6 (l : List DInline) (els : List DElem) (o m v k : Nat) (b : List (Nat × SV)) : St := sx 46 ([(0, .vs 1003 l.length), (1, .vw 1001 21 o m), (4, jI ((v : Nat) : Int)), (5, jI ((k : Nat) : Int)), (8, jI ((l.length : Nat) : Int)), (9, jI ((v : Nat) : Int))] ++ b) (rsB ((l.take v).map (rst els o) ++ l.drop v) els) []
theorem rs6_w (l : List DInline) (els : List DElem) (o m v k : Nat) : W Tryz.prog (.region 6 (Va8 6 Tryz.f95) false) (fun e S1 => e = .normal /\ Weak S1 (rs6 l els o m v k [(35, jB true)])) (rs6 l els o m v k [(6, .av (.val .nilIface))]) := by
 refine Vah ?_; rw [show (Va8 6 Tryz.f95).toList = [regO 6 Tryz.f95 0, regO 6 Tryz.f95 1] by kernel_rfl]; refine Vav (.av (.val .nilIface)) 34 (by kernel_rfl) (by kernel_rfl) ?_; refine WO_nilI (t := 91) (t' := 91) (x := .tmp 34) (by kernel_rfl) (by kernel_rfl) (by kernel_rfl) (by kernel_rfl) ?_; exact Vbp rfl ⟨rfl, WK (by kernel_rfl)⟩
theorem rst_to (l : List DInline) (els : List DElem) (o m : Nat) (hl : l.length <= 1073741824) (hm : o + m <= els.length) (he : els.length <= 1073741824) (hk : RsOk m l) :
  CallTo Tryz.prog 95 [.vs 1003 l.length, .vw 1001 21 o m] (rsB l els) [] Vad (kept (rsB (l.map (rst els o)) els)) [] := by
 refine BEGv (fun _ : Unit => Vad) (fun _ => rsB (l.map (rst els o)) els) (fun _ => []) () Tryz.func95 (by kernel_rfl) ?_; refine gO (tn 3 z) ?_; refine LP (n := l.length + 1) (fun N M S => ∃ (v : Nat), v <= l.length /\ l.length - v < N /\ M = () /\ S = rsS l els o m v) (by kernel_rfl) ⟨0, by omega, by omega, rfl, rfl⟩ (WK (by kernel_rfl)) ?_; rintro n0 M S ⟨v, hv, hF0, rfl, rfl⟩; obtain ⟨n0, rfl⟩ : ∃ k, n0 = k + 1 := ⟨n0 - 1, by omega⟩
 have hll : ((l.take v).map (rst els o) ++ l.drop v).length = l.length := by rw [Zg, Zf, Zu, List.length_drop]; omega
 by_cases h1 : v < l.length
 ·have hd : decide (((v : Nat) : Int) < ((l.length : Nat) : Int)) = true := dT (by omega)
  have hi : 0 <= ((v : Nat) : Int) /\ ((v : Nat) : Int) < ((l.length : Nat) : Int) := ⟨by omega, by omega⟩
  have hei := elI_aInline ((l.take v).map (rst els o) ++ l.drop v) ((v : Nat) : Int) (by omega) (by omega); rw [show ((v : Nat) : Int).toNat = v from rfl, el_ad h1] at hei
  have hwr := wrE (((v : Nat) : Int) + 1) ((v + 1 : Nat) : Int) (by omega); rcases hk _ (Vf2 (l := l) (i := v) h1) with ⟨q1, q2, q3, q4⟩ | ⟨q1, q2⟩
  ·have hq : ((el l v).fKind != -1) = false := by rw [q1]; rfl
   have hat := atoi_to (rsI (el l v)) q2; rw [<- q4] at hat
   have hk1 : 0 <= ((rsI (el l v) : Nat) : Int) /\ ((rsI (el l v) : Nat) : Int) < ((m : Nat) : Int) := ⟨by omega, by omega⟩
   have hee := Vk1 els ((o + rsI (el l v) : Nat) : Int) (by omega) (by omega); refine gO (tn 1 (kb hd (tn 4 (kp hi (tn 1 (ke hei (tn 1 (kb hq (tn 2 (kp hi (tn 1 (ke hei (kc hat (tn 5 (kq 6 z))))))))))))))) ?_
   have hst := st_inl ((l.take v).map (rst els o) ++ l.drop v) ((v : Nat) : Int) (el els (o + rsI (el l v))).fpiece.fInline ⟨by omega, by omega⟩; refine NXW (rs6 l els o m v (rsI (el l v)) [(35, jB true)]) (kb (b := true) (d := true) rfl (tn 4 (kp hk1 (tn 2 (ke hee (kp hi (kp hst (kq 8 z)))))))) (by kernel_rfl) ?_ (by kernel_rfl) ?_
   ·refine Vaz (S' := rs6 l els o m v (rsI (el l v)) [(6, .av (.val .nilIface))]) (WK (by kernel_rfl)) ?_; exact Vb5 (c' := .region 6 (Va8 6 Tryz.f95) false) (by kernel_rfl) (rs6_w l els o m v (rsI (el l v)))
   refine BOX (e := 42) (sz := 10) 1003 (by kernel_rfl) (set_inl ((l.take v).map (rst els o) ++ l.drop v) v (el els (o + rsI (el l v))).fpiece.fInline (by omega)) ?_; refine gO (kn hwr (tn 1 z)) ?_; refine AG (m := n0) (S'' := rsS l els o m (v + 1)) ⟨v + 1, by omega, by omega, rfl, rfl⟩ ?_ (by kernel_rfl) (Ze _); unfold rsS; rw [<- set_ad (f := rst els o) h1, show rst els o (el l v) = (el els (o + rsI (el l v))).fpiece.fInline from if_pos q1]; exact WK (by kernel_rfl)
  ·have hq : ((el l v).fKind != -1) = true := by rw [bne_iff_ne]; exact q1
   have hr0 := rst0_to (.vw 1001 21 o m); rw [show ([] : List AV) = (el l v).fKids.map Va1 by rw [q2]; rfl] at hr0; refine gO (tn 1 (kb hd (tn 4 (kp hi (tn 1 (ke hei (tn 1 (kb hq (tn 2 (kp hi (tn 1 (ke hei (tn 1 (kc hr0 (kn hwr (tn 1 z)))))))))))))))) ?_; refine AG (m := n0) (S'' := rsS l els o m (v + 1)) ⟨v + 1, by omega, by omega, rfl, rfl⟩ ?_ (by kernel_rfl) (Ze _); unfold rsS; rw [<- same_ad (f := rst els o) h1 (if_neg q1)]; exact WK (by kernel_rfl)
 ·have hd : decide (((v : Nat) : Int) < ((l.length : Nat) : Int)) = false := dF (by omega)
  have hvl : v = l.length := by omega
  subst hvl; refine gO (tn 1 (kb hd z)) ?_; refine OUT z (by kernel_rfl) ?_; rw [show l.map (rst els o) = (l.take l.length).map (rst els o) ++ l.drop l.length by simp]; exact ENk (by kernel_rfl) (by kernel_rfl) (by kernel_rfl)
theorem bwL_to (ps : List DPiece) (hn : ps.length <= 536870912) : CallTo Tryz.prog 148 [.ptr 14 0, jI 0, jI 0] (stE ps (mtL ps)) [] (jL ((Vau ps).map Va1)) (stE ps (mtL ps)) [] := by
 have hR := ring_mtL ps
 have hl := hR.len
 have hk : (Vau ps).length <= ps.length := by
  unfold Vau; exact Nat.le_trans (List.length_filter_le _ _) (by simp)
 exact Vc6 (by kernel_rfl) (Va3 (Vab (14, 0) (1000, 0) rfl) (Va3 (Vab (12, 0) (2001, 0) rfl) (bw_to ps (mtL ps) (Vau ps) hR (by omega))))
def neS (ps : List DPiece) : St := sx 9 [(3, .ptr 14 0)] (stE ps (mtL ps)) []
theorem ne1 (ps : List DPiece) (hn : ps.length <= 536870912) (hk : ∀ p ∈ ps, p.fKind = 0) : W Tryz.prog (.region 1 (Va8 1 Tryz.f94) false) (fun e S1 => e = .normal /\ Weak S1 (neS ps)) (sx 9 [(0, jL (ps.map Var))] [] []) := by
 refine Vah ?_; rw [show (Va8 1 Tryz.f94).toList = [regO 1 Tryz.f94 0, regO 1 Tryz.f94 1, regO 1 Tryz.f94 2] by kernel_rfl]; refine Vav (jL (ps.map Var)) 4 (by kernel_rfl) (by kernel_rfl) ?_; refine WO_new (nb := stE ps (mtL ps)) (res := .ptr 14 0) (f := 147) (x := .func 147) (args := #[.tmp 4]) (tys := #[62]) (fs := []) (cs := []) 5 (by kernel_rfl) (by kernel_rfl) rfl (Vc6 (by kernel_rfl) (mtc_to ps hn hk)) (by kernel_rfl) (by kernel_rfl) ?_; refine Vav (.ptr 14 0) 3 (by kernel_rfl) (by kernel_rfl) ?_; exact Vbp rfl ⟨rfl, WK (by kernel_rfl)⟩
def neB (xs : List DInline) : List (Nat × ABox) := [(3, .vec 42 10 ((mgL xs).map Va1))]
theorem ne2 (ps : List DPiece) (hn : ps.length <= 536870912) (hX : MgOk (Vau ps)) : W Tryz.prog (.region 2 (Va8 2 Tryz.f94) false) (fun e S1 => e = .normal /\ Weak S1 (sx 9 [(2, .vs 3 (mgL (Vau ps)).length)] (neB (Vau ps)) [])) (neS ps) := by
 have hc := bwL_to ps hn; refine Vah ?_; rw [show (Va8 2 Tryz.f94).toList = [regO 2 Tryz.f94 0, regO 2 Tryz.f94 1, regO 2 Tryz.f94 2, regO 2 Tryz.f94 3] by kernel_rfl]; refine Viu (S' := sx 9 [(7, jL ((Vau ps).map Va1))] (stE ps (mtL ps)) []) 2 ?_ ?_
 ·exact Vkt (cs := [True, _, True]) [cO hc] 9 [(7, jL ((Vau ps).map Va1))] (stE ps (mtL ps)) [] ⟨trivial, hc, trivial, trivial⟩ (by kernel_rfl) (WK (by kernel_rfl))
 refine WO_new (nb := neB (Vau ps)) (res := .vs 3 (mgL (Vau ps)).length) (f := 21) (x := .func 21) (args := #[.tmp 7]) (tys := #[24]) (fs := []) (cs := []) 8 (by kernel_rfl) (by kernel_rfl) rfl (Vc6 (by kernel_rfl) (mg_to (Vau ps) hX)) (by kernel_rfl) (by kernel_rfl) ?_; refine Vav (.vs 3 (mgL (Vau ps)).length) 2 (by kernel_rfl) (by kernel_rfl) ?_; exact Vbp rfl ⟨rfl, WK (by kernel_rfl)⟩
theorem nst_to (ps : List DPiece) (hn : ps.length <= 536870912) (hk : ∀ p ∈ ps, p.fKind = 0) (hX : MgOk (Vau ps)) : Vg5 Tryz.prog 94 [jL (ps.map Var)] (neB (Vau ps)) (.vs 3 (mgL (Vau ps)).length) := by
 refine BEGn Tryz.func94 (by kernel_rfl) ?_; refine gO (tn 1 (kq 1 z)) ?_; refine NXW (neS ps) (kq 2 z) (by kernel_rfl) ?_ (by kernel_rfl) ?_
 ·refine Vaz (S' := sx 9 [(0, jL (ps.map Var))] [] []) (WK (by kernel_rfl)) ?_; exact Vb5 (c' := .region 1 (Va8 1 Tryz.f94) false) (by kernel_rfl) (ne1 ps hn hk)
 refine NXW (sx 9 [(2, .vs 3 (mgL (Vau ps)).length)] (neB (Vau ps)) []) z (by kernel_rfl) ?_ (by kernel_rfl) ?_
 ·refine Vaz (S' := neS ps) (WK (by kernel_rfl)) ?_; exact Vb5 (c' := .region 2 (Va8 2 Tryz.f94) false) (by kernel_rfl) (ne2 ps hn hX)
 exact eNs
def phI (k : Nat) : DInline := DInline.mk (-1) (itoa k) ⟨#[]⟩ ⟨#[]⟩ ⟨⟨#[]⟩, [], []⟩ [] [] []
def pcE (k : Nat) (e : DElem) : DPiece := if e.fpiece.fInline.fKids.length = 0 then e.fpiece else { e.fpiece with fInline := phI k }
def pcsN (els : List DElem) (o n : Nat) : List DPiece := (Z6 n).map (fun v => pcE v (el els (o + v)))
theorem Voo (els : List DElem) (o n : Nat) : pcsN els o (n + 1) = pcsN els o n ++ [pcE n (el els (o + n))] := by simp [pcsN, List.range_succ]
theorem Vn1 (els : List DElem) (o n : Nat) : (pcsN els o n).length = n := by simp [pcsN]
theorem uniP (x : DPiece) : Uni 18 [Vbn x] := by
 intro y hy; simp only [Zd, Zb, or_false] at hy; subst hy; exact ⟨rfl, rfl⟩
def pcZ : Value := .agg #[.int .i64 0, .int .i64 0, .string ⟨#[]⟩, .string ⟨#[]⟩, .string ⟨#[]⟩, .string ⟨#[]⟩, .slice none 0 0, .slice none 0 0, .slice none 0 0, .slice none 0 0, .slice none 0 0, .string ⟨#[]⟩, .int .i64 0, .bool false, .bool false, .bool false, .int .i64 0, .int .i64 0]
theorem pc_box (n : Nat) (id : Nat) (G : Gh) (w : World) (blk : Nat) (hb : blk < w.heap.size) (ho : G.ow (id, 0) = some blk) (hw : w.heap[blk]? = some (.cells (madeCells pcZ.cells (n * 18)) 68 (0, 0))) (hU : G.U blk = 0) (hc : G.cp blk = n) : RepB G w id (.vec 68 18 []) := by
 refine .inr ⟨blk, _, [], hb, ho, hw, hU, ?_, rfl, by simp, ⟨_, rfl⟩, by simp [Va0]⟩; rw [hc, size_madeCells]; exact Zo _
def nsB (els : List DElem) : List (Nat × ABox) := [(1001, .vec 107 21 (els.map Vba))]
def nsS (els : List DElem) (o m v : Nat) (os : List AV) : St := sx 45 [(0, .vw 1001 21 o m), (3, .vs 10 v), (11, .vw 1001 21 o m), (12, jI ((m : Nat) : Int)), (13, jI ((v : Nat) : Int))] ((10, .vec 68 18 os) :: nsB els) []
theorem ns1 (els : List DElem) (o m : Nat) (hm : m <= 536870912) : W Tryz.prog (.region 1 (Va8 1 Tryz.f57) false) (fun e S1 => e = .normal /\ Weak S1 (sx 45 [(0, .vw 1001 21 o m), (3, .vs 10 0)] ((10, .vec 68 18 []) :: nsB els) [])) (sx 45 [(0, .vw 1001 21 o m)] (nsB els) []) := by
 refine Vah ?_; rw [show (Va8 1 Tryz.f57).toList = [regO 1 Tryz.f57 0, regO 1 Tryz.f57 1, regO 1 Tryz.f57 2, regO 1 Tryz.f57 3] by kernel_rfl]; refine Vav (.vw 1001 21 o m) 8 (by kernel_rfl) (by kernel_rfl) ?_; refine Vav (jI ((m : Nat) : Int)) 9 (by kernel_rfl) (by kernel_rfl) ?_; refine Vfq (.vs 10 0) 10 (by kernel_rfl) (Vga (x := .const (.int .i64 0)) (y := .tmp 9) (t := 62) (e := 68) (sz := 18) (bt := 248) (z := pcZ) (m := 0) (n := m) (id := 10) (k := .i64) (k' := .i64) (X := .vec 68 18 []) (by kernel_rfl) (by kernel_rfl) (by kernel_rfl) (by omega) (by kernel_rfl) (by kernel_rfl) (by omega) (by omega) (by decide) (by kernel_rfl) (fun G w blk h1 h2 h3 h4 h5 => pc_box m 10 G w blk h1 h2 h3 h4 h5)) ?_; refine Vav (.vs 10 0) 3 (by kernel_rfl) (by kernel_rfl) ?_; exact Vbp rfl ⟨rfl, WK (by kernel_rfl)⟩
def nsT (els : List DElem) (o m : Nat) (xs : List DInline) : St := sx 45 [(0, .vw 1001 21 o m), (7, .vs 3 xs.length)] ((3, .vec 42 10 (xs.map Va1)) :: nsB els) []
theorem ns10 (els : List DElem) (o m : Nat) (ps : List DPiece) (hn : ps.length <= 536870912) (hk : ∀ p ∈ ps, p.fKind = 0) (hX : MgOk (Vau ps)) : W Tryz.prog (.region 10 (Va8 10 Tryz.f57) false) (fun e S1 => e = .normal /\ Weak S1 (nsT els o m (mgL (Vau ps)))) (sx 45 [(0, .vw 1001 21 o m), (3, jL (ps.map Var))] (nsB els) []) := by
 refine Vah ?_; rw [show (Va8 10 Tryz.f57).toList = [regO 10 Tryz.f57 0, regO 10 Tryz.f57 1, regO 10 Tryz.f57 2] by kernel_rfl]; refine Vav (jL (ps.map Var)) 39 (by kernel_rfl) (by kernel_rfl) ?_; refine WO_new (nb := neB (Vau ps)) (res := .vs 3 (mgL (Vau ps)).length) (f := 94) (x := .func 94) (args := #[.tmp 39]) (tys := #[62]) (fs := []) (cs := []) 40 (by kernel_rfl) (by kernel_rfl) rfl (Vc6 (by kernel_rfl) (nst_to ps hn hk hX)) (by kernel_rfl) (by kernel_rfl) ?_; refine Vav (.vs 3 (mgL (Vau ps)).length) 7 (by kernel_rfl) (by kernel_rfl) ?_; exact Vbp rfl ⟨rfl, WK (by kernel_rfl)⟩
structure NsOk (els : List DElem) (o m : Nat) : Prop where
 one : ∀ v, v < m -> (el els (o + v)).fkind = 0 /\ (el els (o + v)).fpiece.fKind = 0 /\ ((el els (o + v)).fpiece.fInline.fKids.length ≠ 0 -> v < 100)
 mg : MgOk (Vau (pcsN els o m))
 rs : RsOk m (mgL (Vau (pcsN els o m)))
def nstM (els : List DElem) (o m : Nat) : List DInline := (mgL (Vau (pcsN els o m))).map (rst els o)
theorem mgL_len (xs : List DInline) : (mgL xs).length <= xs.length := by
 induction xs with
 | nil => exact Zo _
 | cons x l ih =>
  show (mgc x (mgL l)).length <= _; unfold mgc; cases h : mgL l with
  | nil => simp
  | cons y q =>
   rw [h] at ih; simp only
   split <;> (simp only [Zc] at ih ⊢; omega)
theorem nes_to (els : List DElem) (o m : Nat) (hm : o + m <= els.length) (he : els.length <= 536870912) (hN : NsOk els o m) :
  CallTo Tryz.prog 57 [.vw 1001 21 o m] (nsB els) [] (jL ((nstM els o m).map Va1)) (kept (nsB els)) [] := by
 have hkk : (Vau (pcsN els o m)).length <= m := by
  unfold Vau; refine Nat.le_trans (List.length_filter_le _ _) ?_; rw [Zf, Vn1]; exact Zo _
 have hml := mgL_len (Vau (pcsN els o m))
 have hpk : ∀ p ∈ pcsN els o m, p.fKind = 0 := by
  intro p hp; simp only [pcsN, Zy, List.mem_range] at hp; obtain ⟨v, hv, rfl⟩ := hp
  have := (hN.one v hv).2.1; unfold pcE
  split <;> exact this
 refine BEGv (fun _ : Unit => jL ((nstM els o m).map Va1)) (fun _ => nsB els) (fun _ => []) () Tryz.func57 (by kernel_rfl) ?_; refine gO (tn 1 (kq 1 z)) ?_; refine NXW (sx 45 [(0, .vw 1001 21 o m), (3, .vs 10 0)] ((10, .vec 68 18 []) :: nsB els) []) (tn 3 z) (by kernel_rfl) ?_ (by kernel_rfl) ?_
 ·refine Vaz (S' := sx 45 [(0, .vw 1001 21 o m)] (nsB els) []) (WK (by kernel_rfl)) ?_; exact Vb5 (c' := .region 1 (Va8 1 Tryz.f57) false) (by kernel_rfl) (ns1 els o m (by omega))
 refine LP (n := m + 1) (fun N M S => ∃ (v : Nat) (os : List AV), v <= m /\ os = (pcsN els o v).map Var /\ m - v < N /\ M = () /\ S = nsS els o m v os) (by kernel_rfl) ⟨0, [], by omega, rfl, by omega, rfl, rfl⟩ (WK (by kernel_rfl)) ?_; rintro n0 M S ⟨v, os, hv, hos, hF0, rfl, rfl⟩; obtain ⟨n0, rfl⟩ : ∃ k, n0 = k + 1 := ⟨n0 - 1, by omega⟩
 have hol : os.length = v := by rw [hos, Zf, Vn1]
 by_cases h1 : v < m
 ·have hd : decide (((v : Nat) : Int) < ((m : Nat) : Int)) = true := dT (by omega)
  have hi : 0 <= ((v : Nat) : Int) /\ ((v : Nat) : Int) < ((m : Nat) : Int) := ⟨by omega, by omega⟩
  have hee := Vk1 els ((o + v : Nat) : Int) (by omega) (by omega)
  have hwr := wrE (((v : Nat) : Int) + 1) ((v + 1 : Nat) : Int) (by omega); obtain ⟨q1, q2, q3⟩ := hN.one v h1
  by_cases h2 : (el els (o + v)).fpiece.fInline.fKids.length = 0
  ·have hb : cond (((el els (o + v)).fkind : Int) == 0) (decide ((((el els (o + v)).fpiece.fInline.fKids.map Va1).length : Int) > 0)) false = false := by
    rw [q1, Zf, h2]; rfl
   have hp : pcE v (el els (o + v)) = (el els (o + v)).fpiece := if_pos h2
   have hap : v <= os.length /\ Uni 18 [Vbn (el els (o + v)).fpiece] /\ (v + ([Vbn (el els (o + v)).fpiece] : List AV).length) * 248 <= 140737488355328 := ⟨by omega, uniP _, by simp; omega⟩
   refine gO (tn 1 (kb hd (tn 1 (kp hi (ke hee (tn 7 (tn 4 (kj (((el els (o + v)).fkind : Int) == 0) (tn 5 z) z (kb hb (tn 2 (kp (uniP (el els (o + v)).fpiece) (kp hap (tn 1 (kn hwr (tn 1 z))))))))))))))) ?_; refine AG (m := n0) (S'' := nsS els o m (v + 1) (os.take v ++ [Vbn (el els (o + v)).fpiece])) ⟨v + 1, _, by omega, ?_, by omega, rfl, rfl⟩ (WK (by kernel_rfl)) (by kernel_rfl) (Ze _); rw [Voo, hp, Z1, <- hos, Zh (by omega)]; rw [List.map_singleton, Vq6]; rfl
  ·have hb : cond (((el els (o + v)).fkind : Int) == 0) (decide ((((el els (o + v)).fpiece.fInline.fKids.map Va1).length : Int) > 0)) false = true := by
    rw [q1, Zf]
    show decide _ = true; exact dT (by omega)
   have hp : pcE v (el els (o + v)) = { (el els (o + v)).fpiece with fInline := phI v } := if_neg h2
   have hit := itoa_to v (q3 h2)
   have hap : v <= os.length /\ Uni 18 [Vbn { (el els (o + v)).fpiece with fInline := phI v }] /\ (v + ([Vbn { (el els (o + v)).fpiece with fInline := phI v }] : List AV).length) * 248 <= 140737488355328 := ⟨by omega, uniP _, by simp; omega⟩
   refine gO (tn 1 (kb hd (tn 1 (kp hi (ke hee (tn 7 (tn 4 (kj (((el els (o + v)).fkind : Int) == 0) (tn 5 z) z (kb hb (tn 1 (kc hit (tn 3 (tn 2 (kp (uniP { (el els (o + v)).fpiece with fInline := phI v }) (kp hap (tn 1 (kn hwr (tn 1 z)))))))))))))))))) ?_; refine AG (m := n0) (S'' := nsS els o m (v + 1) (os.take v ++ [Vbn { (el els (o + v)).fpiece with fInline := phI v }])) ⟨v + 1, _, by omega, ?_, by omega, rfl, rfl⟩ (WK (by kernel_rfl)) (by kernel_rfl) (Ze _); rw [Voo, hp, Z1, <- hos, Zh (by omega)]; rw [List.map_singleton, Vq6]; rfl
 ·have hd : decide (((v : Nat) : Int) < ((m : Nat) : Int)) = false := dF (by omega)
  have hvm : v = m := by omega
  subst hvm; refine gO (tn 1 (kb hd z)) ?_; refine OUT (kq 10 z) (by kernel_rfl) ?_; refine FRZ 3 10 (n := v) (l := os) (l' := (pcsN els o v).map Var) (by kernel_rfl) (by omega) (by rw [<- hos, Zh (by omega)]) ?_
  have hrs := rst_to (mgL (Vau (pcsN els o v))) els o v (by omega) hm (by omega) hN.rs
  have hrs2 : CallTo Tryz.prog 95 [.vs 3 (mgL (Vau (pcsN els o v))).length, .vw 1001 21 o v] [(3, .vec 42 10 ((mgL (Vau (pcsN els o v))).map Va1)), (1001, .vec 107 21 (els.map Vba))] [] Vad [(3, .vck 42 10 ((nstM els o v).map Va1)), (1001, .vck 107 21 (els.map Vba))] [] := Vc6 (by kernel_rfl) (Va3 (Vab (3, 0) (1003, 0) rfl) hrs); refine NXW (nsT els o v (mgL (Vau (pcsN els o v)))) (tn 2 (kg hrs2 trivial (kq 12 z))) (by kernel_rfl) ?_ (by kernel_rfl) ?_
  ·refine Vaz (S' := sx 45 [(0, .vw 1001 21 o v), (3, jL ((pcsN els o v).map Var))] (nsB els) []) (WK (by kernel_rfl)) ?_; exact Vb5 (c' := .region 10 (Va8 10 Tryz.f57) false) (by kernel_rfl) (ns10 els o v (pcsN els o v) (by rw [Vn1]; omega) hpk hN.mg)
  refine FRZ 7 3 (n := (mgL (Vau (pcsN els o v))).length) (l := (nstM els o v).map Va1) (l' := (nstM els o v).map Va1) (by kernel_rfl) (by simp [nstM]) (by rw [Zh (by simp [nstM])]) ?_; refine gO (tn 2 z) ?_; exact ENk (by kernel_rfl) (by kernel_rfl) (by kernel_rfl)
end Go.Proofs.YthbpjmogdonlkaaGreatDoor
namespace Go.Eng
open Go.Lib
section
variable {P : Program}
theorem Vj2 {o : Oper} {S : St} {t : TypeId} {x : Operand} {s : ByteArray} {id : Nat} (ho : o.op = .range t x) (ht : P.underlying t = some .string) (hx : S.ev x = .av (.val (.string s))) (hid : id < 1000) (hn : S.names id = false) :
  Sound P o S ⟨True, .ptr id 0, S.addBox id (.it s 0)⟩ := by
 intro _ G w a hrel
 have hv := hrel.ev x; rw [hx] at hv
 have hu : a.eval x = .string s := hv.1; obtain ⟨s1, s2, s3⟩ := Vdd hrel.wf (.stringIter s 0) id
 have hrb := hrel.bind hn (.stringIter s 0); refine ⟨.value (.pointer (some ⟨w.heap.size, 0, none⟩)), .pointer (some ⟨w.heap.size, 0, none⟩), _, _, ?_, .inl rfl, s1, ⟨hrb.wf, hrb.size, hrb.fr, fun p hp => ?_, hrb.gn, hrb.defers⟩, ⟨w.heap.size, by simp [Gh.bind], rfl⟩, fun i hi => ?_⟩
 ·have e := run_range_string (P := P) w t s ht; simp only [execOp, ho, hu, Sem.run_bind, e]; rfl
 ·simp only [St.addBox, Zd] at hp; rcases hp with rfl | hp
  ·exact ⟨w.heap.size, by simp, by simp [Gh.bind], heap_alloc_new w _, hrel.wf.zero _ (Zo _)⟩
  ·exact hrb.bx p hp
 ·simp only [Gh.bind]; rw [if_neg (by intro h; simp only [Prod.mk.injEq] at h; omega)]
theorem step_setIt {G : Gh} {w : World} (hw : Wf G w) {id : Nat} {blk : Nat} {s : ByteArray} {pos : Nat} (ho : G.ow (id, 0) = some blk) (hh : w.heap[blk]? = some (.stringIter s pos)) (hU : G.U blk = 0) (pos' : Nat) :
  Step G w G (w.iterAt blk s pos') /\ Wf G (w.iterAt blk s pos') /\ ∀ κ', κ' ≠ (id, 0) -> Keep G w G (w.iterAt blk s pos') κ' := by
 have hoth : ∀ k, k ≠ blk -> (w.iterAt blk s pos').heap[k]? = w.heap[k]? := fun k hk => iterAt_other w blk k s pos' hk
 have hsz : (w.iterAt blk s pos').heap.size = w.heap.size := iterAt_size w blk s pos'
 have hkp : ∀ κ', κ' ≠ (id, 0) -> Keep G w G (w.iterAt blk s pos') κ' := fun κ' hk' => ⟨rfl, fun b hb => ⟨hoth b (fun he => by subst he; exact hk' (hw.inj κ' (id, 0) b hb ho)), rfl⟩⟩
 refine ⟨⟨⟨fun b => Zo _, imm_of (fun b hb => hoth b (fun he => by subst he; omega)), by rw [hsz]; exact Zo _, rfl, rfl, rfl, fun _ _ => rfl, fun _ => Zo _, fun κ h0 _ => hkp κ (by intro e; rw [e] at h0; simp at h0)⟩, fun b hb hn => ⟨hoth b (fun he => hn _ (he ▸ ho)), rfl⟩, fun κ b h => .inl ⟨κ, h⟩⟩, ⟨hw.inj, fun κ b h => ?_, fun b hb => ?_⟩, hkp⟩
 ·rw [hsz]; exact hw.lt κ b h
 ·exact hw.zero b (by rw [hsz] at hb; exact hb)
theorem Vlf {o : Oper} {S : St} {x : Operand} {b : Nat} {s : ByteArray} {pos : Nat} (ho : o.op = .next x true) (hx : S.ev x = .ptr b 0) (hb : S.bx.lookup b = some (.it s pos)) (hp : pos < s.size) :
  Sound P o S ⟨True, .av (.tup [.val (.bool true), .val (.int .i64 pos), .val (.int .i32 (Utf8.decode s pos).1)]), S.setBox b (.it s (pos + (Utf8.decode s pos).2))⟩ := by
 intro _ G w a hr
 have h2 := hr.ev x; rw [hx] at h2; obtain ⟨blk, h3, h4⟩ := h2; obtain ⟨blk', g0, g1, g2, g3⟩ := hr.bx _ (Va6 hb); simp only at g1; rw [h3] at g1; simp at g1; subst g1; obtain ⟨s1, s2, s3⟩ := step_setIt hr.wf h3 g2 g3 (pos + (Utf8.decode s pos).2)
 have hper : ∀ s' u, RepS G w s' u -> RepS G (w.iterAt blk s (pos + (Utf8.decode s pos).2)) s' u := fun s' u hs => hs.persist s1.toExt (fun _ _ => rfl)
 refine ⟨.value (.tuple #[.bool true, .int .i64 pos, .int .i32 (Utf8.decode s pos).1]), _, _, G, ?_, .inl rfl, s1, ⟨s2, by simpa [St.setBox] using hr.size, fun t s ht => hper _ _ (hr.fr t s ht), fun p hp' => ?_, hr.gn, hr.defers⟩, ?_, fun _ _ => rfl⟩
 ·have := run_next_any_at (P := P) w blk s pos o.type g2 hp; simp only [execOp, ho, h4, Sem.run_bind, this]; rfl
 ·simp only [St.setBox, Zy] at hp'; obtain ⟨q, hq, rfl⟩ := hp'
  split
  ·rename_i hqb; exact ⟨blk, by rw [iterAt_size]; exact g0, by rw [hqb]; exact h3, iterAt_heap w blk s pos _ g2, g3⟩
  ·rename_i hqb; exact (hr.bx q hq).persist s1.toExt (s3 (q.1, 0) (by simpa using hqb)) (fun _ _ => rfl)
 ·exact ⟨_, rfl, ⟨_, _, rfl, ⟨rfl, rfl⟩, _, _, rfl, ⟨rfl, rfl⟩, _, _, rfl, ⟨rfl, rfl⟩, rfl⟩⟩
theorem Vg9 {o : Oper} {S : St} {x : Operand} {b : Nat} {s : ByteArray} {pos : Nat} (ho : o.op = .next x true) (hx : S.ev x = .ptr b 0) (hb : S.bx.lookup b = some (.it s pos)) (hp : ¬ pos < s.size) :
  Sound P o S ⟨True, .av (.tup [.val (.bool false)]), S⟩ := by
 intro _ G w a hr
 have h2 := hr.ev x; rw [hx] at h2; obtain ⟨blk, h3, h4⟩ := h2; obtain ⟨blk', g0, g1, g2, g3⟩ := hr.bx _ (Va6 hb); simp only at g1; rw [h3] at g1; simp at g1; subst g1; refine ⟨.value (.tuple #[.bool false]), _, w, G, ?_, .inl rfl, Step.refl G w, hr, ⟨_, rfl, ⟨_, _, rfl, ⟨rfl, rfl⟩, rfl⟩⟩, fun _ _ => rfl⟩
 have := run_next_end_at (P := P) w blk s pos o.type g2 hp; simp only [execOp, ho, h4, Sem.run_bind, this]; rfl
end
end Go.Eng
namespace Go.Proofs.YthbpjmogdonlkaaGreatDoor
open Go Go.Eng
def endOfK (P : Program) (fn : Func) (X : Cf) : Option SV := match X with
 | some (_, _, .fin .ret S) => aRes P fn S true
 | some (_, _, .fin .normal S) => aRes P fn S true
 | _ => none
theorem ENbK {α : Type} {P : Program} {fn : Func} {enc : α -> SV} {M : α} {X : Cf} {bx' : List (Nat × ABox)} {gn' : List (Key × Nat)} (h : endOfK P fn X = some (enc M)) (h3 : ∀ p ∈ bx', (stOf X).bx.lookup p.1 = some p.2) (h4 : ∀ p ∈ gn', (stOf X).gen p.1 = p.2) : Nx P (KE P fn enc bx' gn') M X := by
 unfold endOfK at h
 split at h
 ·exact ⟨endsK (.inl rfl) h rfl h3 h4⟩
 ·exact ⟨endsK (.inr rfl) h rfl h3 h4⟩
 ·simp at h
def jR (c : Int) : SV := .av (.val (.int .i32 c))
def KBx : Key := (1300, 6)
theorem apr_to (t : ByteArray) (c : Int) (g : Nat) (hsz : t.size <= 1073741825) (hc : 0 <= c /\ c < 128) : CallTo Tryz.prog 298 [.own KBx g 1 (Va2 t), jR c] [] (bldG g) (.own KBx (g + 1) 1 (Va2 (t.push (u8 c)))) [] (bldG (g + 1)) := by
 refine BEGb (fun _ : Unit => .own KBx (g + 1) 1 (Va2 (t.push (u8 c)))) () Tryz.func298 (by kernel_rfl) (by simp) (by simp [bldG]) (by simp [OkSV, SV.keys, bldG, KBx, jR, List.lookup]) (by simp) (by simp [OkSV, SV.keys, bldG, KBx, List.lookup]) (by simp) rfl rfl ?_
 have w1 : IntKind.wrap .u32 c = c := by simp [IntKind.wrap, IntKind.bits, IntKind.signed]; omega
 have w2 : IntKind.wrap .u8 c = c := by simp [IntKind.wrap, IntKind.bits, IntKind.signed]; omega
 have hu : Uni 1 [(.val (.int .u8 (IntKind.wrap .u8 c)) : AV)] := by
  intro y hy; simp only [Zd, Zb, or_false] at hy; subst hy; exact ⟨rfl, rfl⟩
 have hap : (g : Nat) = g /\ Uni 1 [(.val (.int .u8 (IntKind.wrap .u8 c)) : AV)] /\ ((Va2 t : List AV).length + ([(.val (.int .u8 (IntKind.wrap .u8 c)) : AV)] : List AV).length) * 1 <= 140737488355328 := ⟨rfl, hu, by rw [Vcg]; simp; omega⟩
 have hd : decide (IntKind.wrap .u32 c <= 127) = true := decide_eq_true (by omega)
 have hb : Va2 t ++ [.val (.int .u8 (IntKind.wrap .u8 c))] = Va2 (t.push (u8 c)) := by rw [w2]; exact Vly t c ⟨hc.1, by omega⟩
 refine gO (tn 4 (kb hd (tn 3 (kp hu (kp hap (kw hb (tn 1 z))))))) ?_; refine ENbK (by kernel_rfl) (by simp) ?_; intro p hp; simp only [bldG, Zd, Zb, or_false] at hp; subst hp; kernel_rfl
theorem wrr_to (t : ByteArray) (c : Int) (g : Nat) (hsz : t.size <= 1073741825) (hc : 0 <= c /\ c < 128) : CallTo Tryz.prog 268 [.ptr 1000 0, jR c] [(1000, bldA t g)] (bldG g) (.av (.tup [vI 1, .val .nilIface])) [(1000, bldA (t.push (u8 c)) (g + 1))] (bldG (g + 1)) := by
 refine BEGb (fun _ : Unit => .av (.tup [vI 1, .val .nilIface])) () Tryz.func268 (by kernel_rfl) (by simp) (by simp [bldG]) (by simp [OkSV, SV.keys, jR]) (Vl8 t g g rfl) (by simp [OkSV, SV.keys]) (Vl8 _ _ _ rfl) rfl rfl ?_
 have ha := apr_to t c g hsz hc
 have hw : IntKind.wrap .i64 ((((Va2 (t.push (u8 c))) : List AV).length : Int) - (((Va2 t) : List AV).length : Int)) = 1 := wrE _ _ (by rw [Vcg, Vcg]; simp; omega); refine gO (tn 3 (kg (Ve8 (.own KBx g 1 (Va2 t)) rfl) trivial (tn 12 (kg ha (show g = g /\ True from ⟨rfl, trivial⟩) (tn 9 (kn hw (tn 2 z))))))) ?_; refine ENb (by kernel_rfl) ?_ ?_
 ·intro p hp; simp only [Zd, Zb, or_false] at hp; subst hp; kernel_rfl
 ·intro p hp; simp only [bldG, Zd, Zb, or_false] at hp; subst hp; kernel_rfl
def LetS (s : ByteArray) : Prop := ∀ j, j < s.size -> 97 <= byt s j /\ byt s j <= 122
theorem lowC_id {c : Int} (h : 97 <= c /\ c <= 122) : lowC c = c := by
 have h1 : decide (c <= 90) = false := decide_eq_false (by omega)
 have h2 : decide (c >= 192) = false := decide_eq_false (by omega)
 have h3 : decide (c >= 913) = false := decide_eq_false (by omega)
 have h4 : decide (c >= 1040) = false := decide_eq_false (by omega)
 have h5 : decide (c >= 1024) = false := decide_eq_false (by omega); unfold lowC; simp [h1, h2, h3, h4, h5]
theorem spcC_no {c : Int} (h : 97 <= c /\ c <= 122) : spcC c = false := by
 unfold spcC; rw [beq_false_of_ne (by omega), beq_false_of_ne (by omega)]; rfl
theorem byt_get {s : ByteArray} {j : Nat} (h : j < s.size) : byt s j = (s[j]'h).toNat := by
 unfold byt; rw [Array.getD_eq_getD_getElem?, Array.getElem?_eq_getElem h]; rfl
theorem ext_push {s : ByteArray} {v : Nat} (h : v < s.size) : (s.extract 0 v).push (u8 ((byt s v : Nat) : Int)) = s.extract 0 (v + 1) := by
 have e : u8 ((byt s v : Nat) : Int) = s[v]'h := by
  unfold u8; rw [byt_get h]; simp
 rw [e]; apply ByteArray.ext; simp only [ByteArray.data_push, ByteArray.data_extract]; apply Array.ext'; rw [Array.toList_push]; simp only [Array.toList_extract, List.extract_eq_take_drop, List.drop_zero, Nat.sub_zero]; rw [Zl (by simpa using h)]; rfl
def fdB (s : ByteArray) (v g : Nat) : List (Nat × ABox) := [(3, .cells 80 [.son 3, .own KBx g 1 (Va2 (s.extract 0 v))]), (8, .it s v)]
def fdS (s : ByteArray) (v g : Nat) (l : List (Nat × SV)) : St := sx 27 ([(3, .ptr 3 0), (4, jB false), (8, .ptr 8 0)] ++ l) (fdB s v g) [(KBx, g)]
theorem fd3 (s : ByteArray) : W Tryz.prog (.region 3 (Va8 3 Tryz.f224) false) (fun e S1 => e = .normal /\ Weak S1 (sx 27 [(3, .ptr 3 0), (4, jB false), (8, .ptr 8 0)] [(3, .cells 80 [.av (.val (.pointer none)), .nil]), (8, .it s 0)] [])) (sx 27 [(0, jS s), (3, .ptr 3 0), (4, jB false)] [(3, .cells 80 [.av (.val (.pointer none)), .nil])] []) := by
 refine Vah ?_; rw [show (Va8 3 Tryz.f224).toList = [regO 3 Tryz.f224 0, regO 3 Tryz.f224 1] by kernel_rfl]; refine Vav (jS s) 7 (by kernel_rfl) (by kernel_rfl) ?_; refine Vfq (.ptr 8 0) 8 (by kernel_rfl) (Vj2 (t := 9) (x := .tmp 7) (s := s) (id := 8) (by kernel_rfl) (by kernel_rfl) (by kernel_rfl) (by decide) (by kernel_rfl)) ?_; exact Vbp rfl ⟨rfl, WK (by kernel_rfl)⟩
theorem dec_a {s : ByteArray} {v : Nat} (h : v < s.size) (ha : byt s v < 128) : Utf8.decode s v = (byt s v, 1) := by
 rw [byt_get h] at ha ⊢; exact decode_ascii s v h ha
theorem fd4 (s : ByteArray) (v g : Nat) (h : v < s.size) (ha : byt s v < 128) : W Tryz.prog (.region 4 (Va8 4 Tryz.f224) false) (fun e S1 => e = .normal /\ Weak S1 (sx 27 [(3, .ptr 3 0), (4, jB false), (8, .ptr 8 0), (9, .av (.tup [vB true, vI ((v : Nat) : Int), .val (.int .i32 ((byt s v : Nat) : Int))])), (10, jB true)] [(3, .cells 80 [.son 3, .own KBx g 1 (Va2 (s.extract 0 v))]), (8, .it s (v + 1))] [(KBx, g)])) (fdS s v g []) := by
 refine Vah ?_; rw [show (Va8 4 Tryz.f224).toList = [regO 4 Tryz.f224 0, regO 4 Tryz.f224 1] by kernel_rfl]
 have hs := Vlf (P := Tryz.prog) (o := regO 4 Tryz.f224 0) (S := fdS s v g []) (x := .tmp 8) (b := 8) (s := s) (pos := v) (by kernel_rfl) (by kernel_rfl) (by kernel_rfl) h; rw [dec_a h ha] at hs; refine Vfq (.av (.tup [vB true, vI ((v : Nat) : Int), .val (.int .i32 ((byt s v : Nat) : Int))])) 9 (by kernel_rfl) hs ?_; refine Vav (jB true) 10 (by kernel_rfl) (by kernel_rfl) ?_; exact Vbp rfl ⟨rfl, WK (by kernel_rfl)⟩
theorem fd4e (s : ByteArray) (g : Nat) : W Tryz.prog (.region 4 (Va8 4 Tryz.f224) false) (fun e S1 => e = .normal /\ Weak S1 (fdS s s.size g [(10, jB false)])) (fdS s s.size g []) := by
 refine Vah ?_; rw [show (Va8 4 Tryz.f224).toList = [regO 4 Tryz.f224 0, regO 4 Tryz.f224 1] by kernel_rfl]; refine Vfq (.av (.tup [.val (.bool false)])) 9 (by kernel_rfl) (Vg9 (P := Tryz.prog) (o := regO 4 Tryz.f224 0) (S := fdS s s.size g []) (x := .tmp 8) (b := 8) (s := s) (pos := s.size) (by kernel_rfl) (by kernel_rfl) (by kernel_rfl) (Nat.lt_irrefl _)) ?_; refine Vav (jB false) 10 (by kernel_rfl) (by kernel_rfl) ?_; exact Vbp rfl ⟨rfl, WK (by kernel_rfl)⟩
theorem fold_to (s : ByteArray) (hs : s.size <= 1073741824) (h0 : 0 < s.size) (hL : LetS s) : CallTo Tryz.prog 224 [jS s] [] [] (jS s) [] [] := by
 refine bG Tryz.func224 ?_; refine gO (tn 3 (kq 3 z)) ?_; refine NXW (sx 27 [(3, .ptr 3 0), (4, jB false), (8, .ptr 8 0)] [(3, .cells 80 [.av (.val (.pointer none)), .nil]), (8, .it s 0)] []) z (by kernel_rfl) ?_ (by kernel_rfl) ?_
 ·refine Vaz (S' := sx 27 [(0, jS s), (3, .ptr 3 0), (4, jB false)] [(3, .cells 80 [.av (.val (.pointer none)), .nil])] []) (WK (by kernel_rfl)) ?_; exact Vb5 (c' := .region 3 (Va8 3 Tryz.f224) false) (by kernel_rfl) (fd3 s)
 have hz0 : (Va2 (s.extract 0 0) : List AV) = [] := by simp [Va2]
 refine RT [(3, 0, .son 3), (3, 1, .own KBx 0 1 (Va2 (s.extract 0 0)))] (ac (show (AV.val (.pointer none)) = .val (.pointer none) from rfl) (ac (show (Va2 (s.extract 0 0) : List AV) = [] /\ 0 < 6 /\ (0 : Nat) = 0 from ⟨hz0, by decide, rfl⟩) an)) (by kernel_rfl) ?_; refine LP (n := s.size + 1) (fun N M S => ∃ (v g : Nat), v <= s.size /\ s.size - v < N /\ M = () /\ S = fdS s v g []) (by kernel_rfl) ⟨0, 0, by omega, by omega, rfl, rfl⟩ (WK (by kernel_rfl)) ?_; rintro n0 M S ⟨v, g, hv, hF0, rfl, rfl⟩; obtain ⟨n0, rfl⟩ : ∃ k, n0 = k + 1 := ⟨n0 - 1, by omega⟩
 refine gO (kq 4 z) ?_
 by_cases h1 : v < s.size
 ·obtain ⟨c1, c2⟩ := hL v h1
  have hb : 97 <= ((byt s v : Nat) : Int) /\ ((byt s v : Nat) : Int) <= 122 := by omega
  have hw : IntKind.wrap .i64 ((byt s v : Nat) : Int) = ((byt s v : Nat) : Int) := wrE _ _ (by omega)
  have hw2 : IntKind.wrap .i32 ((byt s v : Nat) : Int) = ((byt s v : Nat) : Int) := by simp [IntKind.wrap, IntKind.bits, IntKind.signed]; omega
  have hsp := spcC_to (IntKind.wrap .i64 ((byt s v : Nat) : Int))
  have hsf : spcC (IntKind.wrap .i64 ((byt s v : Nat) : Int)) = false := by rw [hw]; exact spcC_no hb
  have hlo := lowC_to (IntKind.wrap .i64 ((byt s v : Nat) : Int)) (by rw [hw]; omega) (by rw [hw]; omega)
  have hle : (s.extract 0 v).size = v := by simp; omega
  have hwr0 := wrr_to (s.extract 0 v) ((byt s v : Nat) : Int) g (by omega) (by omega); rw [ext_push h1] at hwr0
  have hce : IntKind.wrap .i32 (lowC (IntKind.wrap .i64 ((byt s v : Nat) : Int))) = ((byt s v : Nat) : Int) := by rw [hw, lowC_id hb, hw2]
  have hwr : CallTo Tryz.prog 268 [.ptr 3 0, jR (IntKind.wrap .i32 (lowC (IntKind.wrap .i64 ((byt s v : Nat) : Int))))] [(3, .cells 80 [.son 3, .own KBx g 1 (Va2 (s.extract 0 v))])] [(KBx, g)] (.av (.tup [vI 1, .val .nilIface])) [(3, .cells 80 [.son 3, .own KBx (g + 1) 1 (Va2 (s.extract 0 (v + 1)))])] [(KBx, g + 1)] := by
   rw [hce]; exact Vc6 (by kernel_rfl) (Va3 (Vab (3, 0) (1000, 0) rfl) hwr0)
  refine NXW (sx 27 [(3, .ptr 3 0), (4, jB false), (8, .ptr 8 0), (9, .av (.tup [vB true, vI ((v : Nat) : Int), .val (.int .i32 ((byt s v : Nat) : Int))])), (10, jB true)] [(3, .cells 80 [.son 3, .own KBx g 1 (Va2 (s.extract 0 v))]), (8, .it s (v + 1))] [(KBx, g)]) (kb (b := true) (d := true) rfl (tn 4 (kc hsp (kb hsf (tn 2 (kb (b := false) (d := false) rfl (kb (b := false) (d := false) rfl (kb (b := false) (d := false) rfl (kb (b := false) (d := false) rfl (tn 3 (kc hlo (tn 1 (kg hwr (show g = g /\ True from ⟨rfl, trivial⟩) z))))))))))))) (by kernel_rfl) ?_ (by kernel_rfl) ?_
  ·refine Vaz (S' := fdS s v g []) (WK (by kernel_rfl)) ?_; exact Vb5 (c' := .region 4 (Va8 4 Tryz.f224) false) (by kernel_rfl) (fd4 s v g h1 (by omega))
  exact AG (m := n0) ⟨v + 1, g + 1, by omega, by omega, rfl, rfl⟩ (WK (by kernel_rfl)) (by kernel_rfl) (Ze _)
 ·have hvs : v = s.size := by omega
  subst hvs
  have hee : s.extract 0 s.size = s := by simp
  have hst0 := Vgs (.son 1000) 1300 g (s.extract 0 s.size) (by rw [hee]; exact h0) (by rw [hee]; omega)
  have hst : CallTo Tryz.prog 38 [.ptr 3 0] [(3, .cells 80 [.son 3, .own KBx g 1 (Va2 (s.extract 0 s.size))])] [(KBx, g)] (.av (.val (.string s))) [(3, .cells 80 [.son 3, .av (.sl (Va2 (s.extract 0 s.size)))])] [(KBx, g + 1)] := by
   rw [hee] at hst0 ⊢; exact Vc6 (by kernel_rfl) (Va3 (Vab (3, 0) (1000, 0) rfl) hst0)
  refine NXW (fdS s s.size g [(10, jB false)]) (kb (b := false) (d := false) rfl z) (by kernel_rfl) ?_ (by kernel_rfl) ?_
  ·refine Vaz (S' := fdS s s.size g []) (WK (by kernel_rfl)) ?_; exact Vb5 (c' := .region 4 (Va8 4 Tryz.f224) false) (by kernel_rfl) (fd4e s g)
  refine OUT (kg hst (show g = g /\ True from ⟨rfl, trivial⟩) (tn 1 z)) (by kernel_rfl) ?_; exact eN
def e0 : ByteArray := ⟨#[]⟩
def BYi (s : ByteArray) (i : Int) : Int := ((byt s (Int.toNat i) : Nat) : Int)
def nbN : Nat -> List DInline -> Prop
 | 0, l => l = []
 | n + 1, l => l.length <= 1048576 /\ ∀ x ∈ l, x.fKind ≠ 2 /\ x.fKind ≠ 3 /\ nbN n x.fKids
theorem nbN.len {n : Nat} {l : List DInline} (h : nbN n l) : l.length <= 1048576 := by
 cases n with
 | zero => rw [show l = [] from h]; simp
 | succ n => exact h.1
def dptN : Nat -> List DInline -> Nat
 | 0, _ => 0
 | n + 1, l => l.foldl (fun m x => max m (1 + dptN n x.fKids)) 0
theorem Vhy {f : DInline -> Nat} {b : Nat} : ∀ (l : List DInline) (a : Nat), a <= b -> (∀ x ∈ l, f x <= b) -> l.foldl (fun m x => max m (f x)) a <= b
 | [], a, h, _ => h
 | x :: l, a, h, hx => Vhy l _ (Nat.max_le.2 ⟨h, hx x (by simp)⟩) (fun y hy => hx y (by simp [hy]))
theorem dptN_le : ∀ (n : Nat) (l : List DInline), dptN n l <= n
 | 0, _ => Zo _
 | n + 1, l => Vhy l 0 (by omega) (fun x _ => by have := dptN_le n x.fKids; omega)
theorem Vi8 {l : List DInline} {v : Nat} (h : v < l.length) : l.take (v + 1) = l.take v ++ [el l v] := by
 rw [Zl h]; simp [el, h]
theorem depth_to : ∀ (n : Nat) (l : List DInline), n <= 1000 -> nbN n l -> CallTo Tryz.prog 25 [jL (l.map Va1)] [] [] (jI ((dptN n l : Nat) : Int)) [] [] := by
 intro n
 induction n with
 | zero =>
  intro l _ h; rw [show l = [] from h]; refine bG Tryz.func25 ?_; refine gO (tn 5 z) ?_; refine uN (sx 21 [(3, jI 0), (6, jI 0), (7, jI 0)] [] []) 1 ?_; refine gO (tn 1 (kb (b := decide ((0 : Int) < (0 : Int))) (d := false) rfl z)) ?_; refine uO (tn 2 z) ?_; exact eN
 | succ n ih =>
  intro l hn h
  have hlq := Vak Va1 l
  have hl := h.1; refine bG Tryz.func25 ?_; refine gO (tn 5 z) ?_; refine LP (n := l.length + 1) (fun N M S => ∃ (v m : Nat), v <= l.length /\ m = (l.take v).foldl (fun m x => max m (1 + dptN n x.fKids)) 0 /\ m <= n + 1 /\ l.length - v < N /\ M = () /\ S = sx 21 [(0, jL (l.map Va1)), (3, jI ((m : Nat) : Int)), (6, jI ((lenM Va1 l : Nat) : Int)), (7, jI ((v : Nat) : Int))] [] []) (by kernel_rfl) ⟨0, 0, by omega, rfl, by omega, by omega, rfl, rfl⟩ (WK (by kernel_rfl)) ?_; rintro n0 M S ⟨v, m, hv, hm, hmn, hF0, rfl, rfl⟩; obtain ⟨n0, rfl⟩ : ∃ k, n0 = k + 1 := ⟨n0 - 1, by omega⟩
  by_cases h1 : v < l.length
  ·have hd : decide (((v : Nat) : Int) < ((lenM Va1 l : Nat) : Int)) = true := dT (by omega)
   have hc := ih (el l v).fKids (by omega) (h.2 _ (Vf2 (l := l) (i := v) h1)).2.2
   have hb := dptN_le n (el l v).fKids
   have w1 := wrE (1 + ((dptN n (el l v).fKids : Nat) : Int)) ((1 + dptN n (el l v).fKids : Nat) : Int) (by omega)
   have w2 := wrE (((v : Nat) : Int) + 1) ((v + 1 : Nat) : Int) (by omega); refine gO (tn 1 (kb hd (tn 5 (ke (Vax l v h1) (tn 2 (kc hc (kn w1 (tn 2 (kn w2 (tn 1 z)))))))))) ?_; refine AG (m := n0) (S'' := sx 21 [(0, jL (l.map Va1)), (3, jI ((max m (1 + dptN n (el l v).fKids) : Nat) : Int)), (6, jI ((lenM Va1 l : Nat) : Int)), (7, jI ((v + 1 : Nat) : Int))] [] []) ⟨v + 1, max m (1 + dptN n (el l v).fKids), by omega, by rw [Vi8 h1, Zi, <- hm]; rfl, by omega, by omega, rfl, rfl⟩ ?_ (by kernel_rfl) (Ze _); rw [show ((max m (1 + dptN n (el l v).fKids) : Nat) : Int) = max ((m : Nat) : Int) ((1 + dptN n (el l v).fKids : Nat) : Int) by omega]; exact WK (by kernel_rfl)
  ·have hd : decide (((v : Nat) : Int) < ((lenM Va1 l : Nat) : Int)) = false := dF (by omega)
   have hvl : v = l.length := by omega
   subst hvl; rw [Z5] at hm
   have hm2 : m = dptN (n + 1) l := hm; rw [<- hm2]; refine gO (tn 1 (kb hd z)) ?_; refine OUT (tn 2 z) (by kernel_rfl) ?_; exact eN
def szN : Nat -> List DInline -> Nat
 | 0, _ => 0
 | n + 1, l => l.foldl (fun m x => m + szN n x.fKids) l.length
theorem Vf0 {f : DInline -> Nat} : ∀ (l : List DInline) (a : Nat), a <= l.foldl (fun m x => m + f x) a /\ ∀ x ∈ l, a + f x <= l.foldl (fun m x => m + f x) a
 | [], a => ⟨Zo _, fun x hx => by simp at hx⟩
 | y :: l, a => by
  obtain ⟨h1, h2⟩ := Vf0 (f := f) l (a + f y); refine ⟨by simp only [Zn]; omega, fun x hx => ?_⟩; simp only [Zn]; rcases Zd.1 hx with rfl | hx
  ·exact h1
  ·have := h2 x hx; omega
theorem Vnf {f : DInline -> Nat} (l : List DInline) (a v : Nat) : (l.take v).foldl (fun m x => m + f x) a <= l.foldl (fun m x => m + f x) a := by
 conv => rhs; rw [<- Zz v l, Zi]
 exact (Vf0 (l.drop v) _).1
theorem szl_to : ∀ (n : Nat) (l : List DInline), nbN n l -> szN n l <= 1073741824 -> CallTo Tryz.prog 96 [jL (l.map Va1)] [] [] (jI ((szN n l : Nat) : Int)) [] [] := by
 intro n
 induction n with
 | zero =>
  intro l h _; rw [show l = [] from h]; refine bG Tryz.func96 ?_; refine gO (tn 7 z) ?_; refine uN (sx 22 [(3, jI 0), (8, jI 0), (9, jI 0)] [] []) 1 ?_; refine gO (tn 1 (kb (b := decide ((0 : Int) < (0 : Int))) (d := false) rfl z)) ?_; refine uO (tn 2 z) ?_; exact eN
 | succ n ih =>
  intro l h hz
  have hlq := Vak Va1 l
  have hl := h.1; refine bG Tryz.func96 ?_; refine gO (tn 7 z) ?_; refine LP (n := l.length + 1) (fun N M S => ∃ (v m : Nat), v <= l.length /\ m = (l.take v).foldl (fun m x => m + szN n x.fKids) l.length /\ l.length - v < N /\ M = () /\ S = sx 22 [(0, jL (l.map Va1)), (3, jI ((m : Nat) : Int)), (8, jI ((lenM Va1 l : Nat) : Int)), (9, jI ((v : Nat) : Int))] [] []) (by kernel_rfl) ⟨0, lenM Va1 l, by omega, by rw [hlq]; rfl, by omega, rfl, rfl⟩ (WK (by kernel_rfl)) ?_; rintro n0 M S ⟨v, m, hv, hm, hF0, rfl, rfl⟩; obtain ⟨n0, rfl⟩ : ∃ k, n0 = k + 1 := ⟨n0 - 1, by omega⟩
  have hmz : m <= 1073741824 := Nat.le_trans (by rw [hm]; exact Vnf l _ v) hz
  by_cases h1 : v < l.length
  ·have hd : decide (((v : Nat) : Int) < ((lenM Va1 l : Nat) : Int)) = true := dT (by omega)
   have hx := Vf2 (l := l) (i := v) h1
   have hz2 : szN n (el l v).fKids <= 1073741824 := by
    have := (Vf0 (f := fun x => szN n x.fKids) l l.length).2 _ hx
    have hz' : l.foldl (fun m x => m + szN n x.fKids) l.length <= 1073741824 := hz; omega
   have hc := ih (el l v).fKids (h.2 _ hx).2.2 hz2
   have w1 := wrE (((m : Nat) : Int) + ((szN n (el l v).fKids : Nat) : Int)) ((m + szN n (el l v).fKids : Nat) : Int) (by omega)
   have w2 := wrE (((v : Nat) : Int) + 1) ((v + 1 : Nat) : Int) (by omega); refine gO (tn 1 (kb hd (tn 5 (ke (Vax l v h1) (tn 2 (kc hc (kn w1 (tn 1 (kn w2 (tn 1 z)))))))))) ?_; exact AG (m := n0) ⟨v + 1, m + szN n (el l v).fKids, by omega, by rw [Vi8 h1, Zi, <- hm]; rfl, by omega, rfl, rfl⟩ (WK (by kernel_rfl)) (by kernel_rfl) (Ze _)
  ·have hd : decide (((v : Nat) : Int) < ((lenM Va1 l : Nat) : Int)) = false := dF (by omega)
   have hvl : v = l.length := by omega
   subst hvl; rw [Z5] at hm
   have hm2 : m = szN (n + 1) l := hm; rw [<- hm2]; refine gO (tn 1 (kb hd z)) ?_; refine OUT (tn 2 z) (by kernel_rfl) ?_; exact eN
def blk1 (l : List DInline) : AV := .agg [vI 0, vI 0, vS e0, vS e0, vS e0, vS e0, vS e0, .sl [], .sl [], .sl (l.map Va1), .sl []]
theorem szb0_to : CallTo Tryz.prog 58 [jL []] [] [] (jI 0) [] [] := by
 refine bG Tryz.func58 ?_; refine gO (tn 7 z) ?_; refine uN (sx 29 [(3, jI 0), (8, jI 0), (9, jI 0)] [] []) 1 ?_; refine gO (tn 1 (kb (b := decide ((0 : Int) < (0 : Int))) (d := false) rfl z)) ?_; refine uO (tn 2 z) ?_; exact eN
theorem szb1_to (n : Nat) (l : List DInline) (h : nbN n l) (hz : szN n l <= 1073741824) : CallTo Tryz.prog 58 [jL [blk1 l]] [] [] (jI ((1 + szN n l : Nat) : Int)) [] [] := by
 have hc := szl_to n l h hz
 have hc0 := szb0_to
 have w1 := wrE (((szN n l : Nat) : Int) + 0) ((szN n l : Nat) : Int) (by omega)
 have w2 := wrE (1 + ((szN n l : Nat) : Int)) ((1 + szN n l : Nat) : Int) (by omega)
 have he : 0 <= (0 : Int) /\ ([blk1 l] : List AV)[(0 : Int).toNat]? = some (blk1 l) := ⟨by decide, rfl⟩
 refine bG Tryz.func58 ?_; refine gO (tn 7 z) ?_; refine uN (sx 29 [(0, jL [blk1 l]), (3, jI 1), (8, jI 1), (9, jI 0)] [] []) 2 ?_; refine gO (tn 1 (kb (b := decide ((0 : Int) < (1 : Int))) (d := true) rfl (tn 2 z))) ?_; refine DR3 (tn 3 (ko (eO he) (kp he (tn 2 (ko (cO hc) (kp hc (tn 3 (ko (eO he) (kp he (tn 2 (ko (cO hc0) (kp hc0 (tn 1 (ko (nO w1) (kp w1 (ko (nO w2) (kp w2 (tn 1 (kn (wrE ((0 : Int) + 1) 1 (by omega)) (tn 1 z)))))))))))))))))))) (by kernel_rfl) (by kernel_rfl) (by kernel_rfl) ?_; refine uA (sx 29 [(0, jL [blk1 l]), (3, jI ((1 + szN n l : Nat) : Int)), (8, jI 1), (9, jI 1)] [] []) ?_; refine gO (tn 1 (kb (b := decide ((1 : Int) < (1 : Int))) (d := false) rfl z)) ?_; refine uO (tn 2 z) ?_; exact eN
theorem size_to (n : Nat) (l : List DInline) (h : nbN n l) (hz : szN n l <= 1073741824) : CallTo Tryz.prog 24 [.av (.agg [.sl [], .sl [blk1 l]])] [] [] (jI ((1 + szN n l : Nat) : Int)) [] [] := by
 have hc := szb1_to n l h hz; refine bG Tryz.func24 ?_; refine gO (tn 4 (kc hc (tn 1 z))) ?_; exact eN
theorem inb0_to : CallTo Tryz.prog 56 [jL []] [] [] (jL []) [] [] := by
 refine bG Tryz.func56 ?_; refine gO (tn 5 z) ?_; refine uN (sx 53 [(3, .nil), (7, jI 0), (8, jI 0)] [] []) 1 ?_; refine gO (tn 1 (kb (b := decide ((0 : Int) < (0 : Int))) (d := false) rfl z)) ?_; refine uO (tn 2 z) ?_; exact eN
theorem inb_to : ∀ (n : Nat) (l : List DInline), nbN n l -> CallTo Tryz.prog 56 [jL (l.map Va1)] [] [] (jL (l.map Va1)) [] [] := by
 intro n
 induction n with
 | zero =>
  intro l h; rw [show l = [] from h]; exact inb0_to
 | succ n ih =>
  intro l h
  have hlq := Vak Va1 l
  have hl := h.1; refine bG Tryz.func56 ?_; refine gO (tn 5 z) ?_; refine TELL 3 3 42 10 (by kernel_rfl) ?_; refine LP (n := l.length + 1) (fun N M S => ∃ (v : Nat) (os : List AV), v <= l.length /\ os = (l.take v).map Va1 /\ l.length - v < N /\ M = () /\ S = sx 53 [(0, jL (l.map Va1)), (3, .vs 3 v), (7, jI ((lenM Va1 l : Nat) : Int)), (8, jI ((v : Nat) : Int))] [(3, .vec 42 10 os)] []) (by kernel_rfl) ⟨0, [], by omega, rfl, by omega, rfl, rfl⟩ (WK (by kernel_rfl)) ?_; rintro n0 M S ⟨v, os, hv, hos, hF0, rfl, rfl⟩; obtain ⟨n0, rfl⟩ : ∃ k, n0 = k + 1 := ⟨n0 - 1, by omega⟩
  have hol : os.length = v := by rw [hos, Zf, Zu]; omega
  by_cases h1 : v < l.length
  ·have hd : decide (((v : Nat) : Int) < ((lenM Va1 l : Nat) : Int)) = true := dT (by omega); obtain ⟨k2, k3, hk⟩ := h.2 _ (Vf2 (l := l) (i := v) h1)
   have hk2 : (((el l v).fKind : Int) == 2) = false := beq_false_of_ne k2
   have hc := ih (el l v).fKids hk
   have he := Vax l v h1
   have w2 := wrE (((v : Nat) : Int) + 1) ((v + 1 : Nat) : Int) (by omega)
   have hap : v <= os.length /\ Uni 10 [Vaa (el l v)] /\ (v + ([Vaa (el l v)] : List AV).length) * 192 <= 140737488355328 := ⟨by omega, uniI _, by simp; omega⟩
   have ff : (false : Bool) = false := rfl; refine gO (tn 1 (kb hd (tn 4 (ke he (tn 4 (kb hk2 (kb hk2 (kb hk2 (tn 1 (kb ff (kb ff (kb ff (kb ff (kb ff (kb ff (kb ff (kb ff (kb ff (kb ff (kb ff (tn 2 (ke he (tn 5 (kc hc (tn 4 (kp (uniI (el l v)) (kp hap (tn 1 (kn w2 (tn 1 z)))))))))))))))))))))))))))))) ?_; refine AG (m := n0) (S'' := sx 53 [(0, jL (l.map Va1)), (3, .vs 3 (v + 1)), (7, jI ((lenM Va1 l : Nat) : Int)), (8, jI ((v + 1 : Nat) : Int))] [(3, .vec 42 10 (os.take v ++ [Vaa (el l v)]))] []) ⟨v + 1, _, by omega, ?_, by omega, rfl, rfl⟩ (WK (by kernel_rfl)) (by kernel_rfl) (Ze _); rw [Vi8 h1, Z1, <- hos, Zh (by omega), List.map_singleton, Vbf]; rfl
  ·have hd : decide (((v : Nat) : Int) < ((lenM Va1 l : Nat) : Int)) = false := dF (by omega)
   have hvl : v = l.length := by omega
   subst hvl; rw [Z5] at hos; refine gO (tn 1 (kb hd z)) ?_; refine OUT (kq 10 z) (by kernel_rfl) ?_; refine FRZ 3 3 (n := l.length) (l := os) (l' := l.map Va1) (by kernel_rfl) (by omega) (by rw [<- hos, Zh (by omega)]) ?_; refine gO (tn 2 z) ?_; exact eN
theorem oub_to (l : List DInline) (hl : l.length <= 1048576) (h0 : 0 < l.length) (h : ∀ x ∈ l, x.fKind ≠ 2 /\ x.fKind ≠ 3) : CallTo Tryz.prog 55 [jL (l.map Va1)] [] [] (jL (l.map Va1)) [] [] := by
 have hlq := Vak Va1 l
 have hd : decide (((lenM Va1 l : Nat) : Int) > 0) = true := dT (by omega)
 have he0 := Vax l 0 h0
 have k0 : (((el l 0).fKind : Int) == 2) = false := beq_false_of_ne (h _ (Vf2 (l := l) (i := 0) h0)).1
 have w1 := wrE (((lenM Va1 l : Nat) : Int) - 1) ((l.length - 1 : Nat) : Int) (by omega)
 have hel := Vax l (l.length - 1) (by omega)
 have km := h _ (Vf2 (l := l) (i := l.length - 1) (by omega))
 have k2 : (((el l (l.length - 1)).fKind : Int) == 2) = false := beq_false_of_ne km.1
 have k3 : (((el l (l.length - 1)).fKind : Int) == 3) = false := beq_false_of_ne km.2; refine bG Tryz.func55 ?_; refine gO (tn 5 (kb hd (tn 1 (kb hd (ke he0 (kb hd (tn 1 (kb hd (tn 1 (kb hd (tn 1 (kb hd (kb k0 z))))))))))))) ?_; refine uN (sx 44 [(0, jL (l.map Va1))] [] []) 1 ?_; refine gO (tn 4 (kb hd (tn 1 (kb hd (tn 1 (kb hd (tn 1 (kb hd (kn w1 (kb hd (ke hel (kb hd (tn 1 (kb hd (tn 1 (kb hd (tn 1 (kb hd (tn 1 (kb k2 (tn 1 (kb k2 (tn 1 (kb k2 (tn 1 (kb k2 (kn w1 (kb k2 (ke hel (kb k2 (tn 1 (kb k2 (tn 1 (kb k2 (tn 1 (kb hd (kb k2 (kb hd (kb k3 z))))))))))))))))))))))))))))))))))))))) ?_; refine uO (tn 2 z) ?_; exact eN
def txI (t : ByteArray) : DInline := DInline.mk 1 t ⟨#[]⟩ ⟨#[]⟩ ⟨⟨#[]⟩, [], []⟩ [] [] []
def cbS (s : ByteArray) (els : List DElem) (n : Nat) (brs : List Int) (f refs i : Int) : St := sx 97 [(0, .ptr 1000 0), (1, jI i), (5, jI f)] [(1000, rdC s els.length n refs), (2001, elB els), (2002, brB brs)] []
theorem cb5 (s : ByteArray) (els : List DElem) (bs : List Int) (f refs i : Int) (hb : bs.length <= 1073741824) : W Tryz.prog (.region 5 (Va8 5 Tryz.f91) true) (fun e S1 => e = .normal /\ Weak S1 (cbS s els bs.length bs f refs i)) (cbS s els (bs ++ [f]).length (bs ++ [f]) f refs i) := by
 have hm1 : IntKind.i64.wrap ((((bs ++ [f]).length : Nat) : Int) - 1) = ((bs.length : Nat) : Int) := wrE _ _ (by simp; omega)
 have hC : (0 : Int) = 0 /\ 0 <= IntKind.i64.wrap ((((bs ++ [f]).length : Nat) : Int) - 1) /\ IntKind.i64.wrap ((((bs ++ [f]).length : Nat) : Int) - 1) <= (((bs ++ [f]).length : Nat) : Int) := by rw [hm1]; refine ⟨rfl, by omega, by simp; omega⟩
 have h := Vks (P := Tryz.prog) (id := 5) (ops := Va8 5 Tryz.f91) (S := cbS s els (bs ++ [f]).length (bs ++ [f]) f refs i) (cs := [True, True, True, True, True, True, True, True, True, True, True, _, _, True, True, True, True]) 11 (by kernel_rfl) (by kernel_rfl) 97 [(0, .ptr 1000 0), (1, jI i), (5, jI f)] [(1000, rdC s els.length (Int.toNat (IntKind.i64.wrap ((((bs ++ [f]).length : Nat) : Int) - 1))) refs), (2001, elB els), (2002, brB (bs ++ [f]))] [] ⟨trivial, trivial, trivial, trivial, trivial, trivial, trivial, trivial, trivial, trivial, trivial, hC, hC, trivial, trivial, trivial, trivial, trivial⟩ (by kernel_rfl) (by kernel_rfl); rw [hm1] at h; refine Vm6 h ?_; rintro e S1 ⟨h1, h2⟩; refine ⟨h1, fun G w a hr => ?_⟩
 have h3 := cut_weak (S := sx 97 [(0, .ptr 1000 0), (1, jI i), (5, jI f)] [(1000, rdC s els.length bs.length refs), (2001, elB els), (2002, brB (bs ++ [f]))] []) (b := 2002) bs.length rfl G w a (h2 G w a hr); rw [show ((bs ++ [f]).map vI).take bs.length = bs.map vI by simp [List.take_append]] at h3; exact h3
def rdK (s : ByteArray) (els : List DElem) (brs : List Int) (refs : Int) : List (Nat × ABox) := [(1000, rdC s els.length brs.length refs), (2001, .vck 107 21 (els.map Vba)), (2002, .vck 3 1 (brs.map vI))]
def Vhp (s : ByteArray) (els : List DElem) (brs : List Int) (refs : Int) (b : DElem) (o : Nat) (i : Int) (r : DInline × Int × Bool) : Prop :=
 CallTo Tryz.prog 145 [.ptr 1000 0, .av (cElem b), .vw 2001 21 o (els.length - o), jI i] (rdB s els brs refs) [] (.av (.tup [Vaa r.1, vI r.2.1, vB r.2.2])) (rdK s els brs refs) []
theorem cls2_to (s : ByteArray) (els : List DElem) (bs : List Int) (f refs i : Int) (x : DInline) (j : Int) (hk : Vhp s els bs refs (el els f.toNat) (f + 1).toNat i (x, j, true)) (he : els.length <= 1073741824) (hr : 0 <= refs /\ refs <= 1073741824) (hb : bs.length <= 1073741824) (hf : 0 <= f /\ f < els.length) :
  CallTo Tryz.prog 91 [.ptr 1000 0, jI i] (rdB s els (bs ++ [f]) refs) [] (jI j) (rdB s (els.take f.toNat ++ [inE x]) bs (cond (refB x.fKind) (refs + 1) refs)) [] := by
 have hm : ((((bs ++ [f]).length : Nat) : Int) == 0) = false := by
  rw [beq_eq_false_iff_ne, Zg]; simp; omega
 have hm1 : IntKind.i64.wrap ((((bs ++ [f]).length : Nat) : Int) - 1) = ((bs.length : Nat) : Int) := wrE _ _ (by simp; omega)
 have hi1 : 0 <= ((bs.length : Nat) : Int) /\ ((bs.length : Nat) : Int) < (((bs ++ [f]).length : Nat) : Int) := ⟨by omega, by simp; omega⟩
 have he1 : 0 <= ((bs.length : Nat) : Int) /\ ((bs ++ [f]).map vI)[((bs.length : Nat) : Int).toNat]? = some (vI f) := ⟨by omega, by simp⟩
 refine bGs Tryz.func91 ?_; refine gO (tn 7 (kb hm z)) ?_; refine DR3 (tn 9 (kn hm1 (kp hi1 (ke he1 (tn 1 z))))) (by kernel_rfl) (by kernel_rfl) (by kernel_rfl) ?_
 have hi2 : 0 <= f /\ f < ((els.length : Nat) : Int) := hf
 have he2 : 0 <= f /\ (els.map Vba)[f.toNat]? = some (Vba (el els f.toNat)) := Vk1 els f hf.1 hf.2; refine NXW (cbS s els bs.length bs f refs i) (tn 5 (kp hi2 (ke he2 (tn 2 z)))) (by kernel_rfl) ?_ (by kernel_rfl) ?_
 ·refine Vaz (S' := cbS s els (bs ++ [f]).length (bs ++ [f]) f refs i) (WK (by kernel_rfl)) ?_; exact Vb5 (c' := .region 5 (Va8 5 Tryz.f91) true) (by kernel_rfl) (cb5 s els bs f refs i hb)
 have hadd : IntKind.i64.wrap (f + 1) = f + 1 := wrE _ _ (by omega)
 have hsl : 0 <= f + 1 /\ f + 1 <= ((els.length : Nat) : Int) /\ ((els.length : Nat) : Int) <= ((els.length : Nat) : Int) := ⟨by omega, by omega, Int.le_refl _⟩
 refine DR3 (tn 7 (kn hadd (kp hsl (tn 1 (ko (cO hk) (kp hk (tn 13 z))))))) (by kernel_rfl) (by kernel_rfl) (by kernel_rfl) ?_
 have hs2 : (0 : Int) = 0 /\ 0 <= f /\ f <= ((els.length : Nat) : Int) := ⟨rfl, hf.1, by omega⟩
 refine gO (kb (b := !true) (d := false) rfl (tn 6 (kp hs2 (tn 3 (kq 13 z))))) ?_; refine CUTV (e := 107) (sz := 21) 2001 f.toNat (by kernel_rfl) (l' := (els.take f.toNat).map Vba) (by rw [List.map_take]) ?_
 have hlt : (els.take f.toNat).length = f.toNat := by rw [Zu]; omega
 have hc := add_to s (els.take f.toNat) bs refs x (by omega) hr; rw [show rdB s (els.take f.toNat) bs refs = [(1000, rdC s f.toNat bs.length refs), (2001, elB (els.take f.toNat)), (2002, brB bs)] by simp [rdB, hlt]] at hc; refine gO (tn 2 (kg hc trivial (tn 2 z))) ?_; exact eNs
def pcS (s : ByteArray) (els : List DElem) (brs : List Int) (refs : Int) (p : DPiece) : St := sx 64 [(0, .ptr 1000 0), (3, .ptr 3 0)] ((3, .cells 68 (sPiece p)) :: rdB s els brs refs) []
def pcT (s : ByteArray) (els : List DElem) (brs : List Int) (refs : Int) (p : DPiece) : St := sx 64 [(0, .ptr 1000 0), (3, .ptr 3 0)] (rdB s els brs refs ++ [(3, .cells 68 (sPiece p))]) []
def opnE (p : DPiece) (refs : Int) : DElem := DElem.mk 2 (DPiece.mk 0 (DInline.mk 0 ⟨#[]⟩ ⟨#[]⟩ ⟨#[]⟩ ⟨⟨#[]⟩, [], []⟩ [] [] []) ⟨#[]⟩ 0 false false false 0 0) p.fImage refs
theorem rdB_snoc' (s : ByteArray) (els : List DElem) (brs : List Int) (refs : Int) (e : DElem) (l : List (Nat × ABox)) : ([(1000, rdC s (els.length + 1) brs.length refs), (2001, ABox.vec 107 21 ((els.map Vba).take els.length ++ [Vba e])), (2002, brB brs)] ++ l) = rdB s (els ++ [e]) brs refs ++ l := by
 rw [rdB_snoc]
theorem pOth_to (s : ByteArray) (els : List DElem) (brs : List Int) (refs : Int) (p : DPiece) (he : els.length <= 1073741824) (hr : 0 <= refs /\ refs <= 1073741824) (h1 : p.fKind ≠ 1) (h2 : p.fKind ≠ 2) (h3 : p.fKind ≠ 3) :
  CallTo Tryz.prog 52 [.ptr 1000 0, .av (Vbn p)] (rdB s els brs refs) [] (jI p.fTo) (rdB s (els ++ [inE p.fInline]) brs (cond (refB p.fInline.fKind) (refs + 1) refs)) [] := by
 have hc := add_to s els brs refs p.fInline he hr; refine bGs Tryz.func52 ?_; refine gO (tn 6 (kb (b := p.fKind == 1) (d := false) (beq_false_of_ne h1) (tn 2 (kb (b := p.fKind == 2) (d := false) (beq_false_of_ne h2) (tn 2 (kb (b := p.fKind == 3) (d := false) (beq_false_of_ne h3) (tn 3 (kg hc trivial (tn 3 z))))))))) ?_; exact eNs
theorem pCls_to (s : ByteArray) (els els' : List DElem) (brs brs' : List Int) (refs refs' : Int) (p : DPiece) (to : Int) (h3 : p.fKind = 3)
  (hc : CallTo Tryz.prog 91 [.ptr 1000 0, jI p.fTo] (rdB s els brs refs) [] (jI to) (rdB s els' brs' refs') []) :
  CallTo Tryz.prog 52 [.ptr 1000 0, .av (Vbn p)] (rdB s els brs refs) [] (jI to) (rdB s els' brs' refs') [] := by
 refine bGs Tryz.func52 ?_; refine gO (tn 6 (kb (b := p.fKind == 1) (d := false) (by rw [h3]; rfl) (tn 2 (kb (b := p.fKind == 2) (d := false) (by rw [h3]; rfl) (tn 2 (kb (b := p.fKind == 3) (d := true) (by rw [h3]; rfl) (tn 3 (kg hc trivial (tn 1 z))))))))) ?_; exact eNs
theorem rdB_brs (s : ByteArray) (els : List DElem) (brs : List Int) (refs : Int) (k : Int) (l : List (Nat × ABox)) : ([(1000, rdC s els.length (brs.length + 1) refs), (2001, elB els), (2002, ABox.vec 3 1 ((brs.map vI).take brs.length ++ [vI k]))] ++ l) = rdB s els (brs ++ [k]) refs ++ l := by
 simp [rdB, brB, Zh]
theorem pc6 (s : ByteArray) (els : List DElem) (brs : List Int) (refs : Int) (p : DPiece) (hb : brs.length <= 1073741824) : W Tryz.prog (.region 6 (Va8 6 Tryz.f52) true) (fun e S1 => e = .normal /\ Weak S1 (pcT s els (brs ++ [((els.length : Nat) : Int)]) refs p)) (pcS s els brs refs p) := by
 have hu : Uni 1 [vI ((els.length : Nat) : Int)] := uni1 rfl rfl
 have hC : cBnd brs.length 8 1 (brs.map vI) (vI ((els.length : Nat) : Int)) := ⟨by simp, hu, by simp; omega⟩
 unfold pcT; rw [<- rdB_brs]; exact Vks (cs := [True, True, True, True, True, True, True, True, True, True, Uni 1 [vI ((els.length : Nat) : Int)], cBnd brs.length 8 1 (brs.map vI) (vI ((els.length : Nat) : Int)), cBnd brs.length 8 1 (brs.map vI) (vI ((els.length : Nat) : Int)), True, True, True, True]) 11 (by kernel_rfl) (by kernel_rfl) 64 [(0, .ptr 1000 0), (3, .ptr 3 0)] _ [] ⟨trivial, trivial, trivial, trivial, trivial, trivial, trivial, trivial, trivial, trivial, hu, hC, hC, trivial, trivial, trivial, trivial, trivial⟩ (by kernel_rfl) (by kernel_rfl)
theorem pc7 (s : ByteArray) (els : List DElem) (brs : List Int) (refs : Int) (p : DPiece) (he : els.length <= 1073741824) : W Tryz.prog (.region 7 (Va8 7 Tryz.f52) true) (fun e S1 => e = .normal /\ Weak S1 (pcT s (els ++ [opnE p refs]) brs refs p)) (pcS s els brs refs p) := by
 have hu : Uni 21 [Vba (opnE p refs)] := uni1 rfl rfl
 have hC : cBnd els.length 272 21 (els.map Vba) (Vba (opnE p refs)) := ⟨by simp, hu, by simp; omega⟩
 unfold pcT; rw [<- rdB_snoc']; exact Vks (cs := [True, True, True, True, True, True, True, True, True, True, True, True, Uni 21 [Vba (opnE p refs)], cBnd els.length 272 21 (els.map Vba) (Vba (opnE p refs)), cBnd els.length 272 21 (els.map Vba) (Vba (opnE p refs)), True, True, True, True]) 13 (by kernel_rfl) (by kernel_rfl) 64 [(0, .ptr 1000 0), (3, .ptr 3 0)] _ [] ⟨trivial, trivial, trivial, trivial, trivial, trivial, trivial, trivial, trivial, trivial, trivial, trivial, hu, hC, hC, trivial, trivial, trivial, trivial, trivial⟩ (by kernel_rfl) (by kernel_rfl)
theorem pOpn_to (s : ByteArray) (els : List DElem) (brs : List Int) (refs : Int) (p : DPiece) (he : els.length <= 1073741824) (hb : brs.length <= 1073741824) (hk : p.fKind = 2) :
  CallTo Tryz.prog 52 [.ptr 1000 0, .av (Vbn p)] (rdB s els brs refs) [] (jI p.fTo) (rdB s (els ++ [opnE p refs]) (brs ++ [((els.length : Nat) : Int)]) refs) [] := by
 refine bGs Tryz.func52 ?_; refine gO (tn 6 (kb (b := p.fKind == 1) (d := false) (by rw [hk]; rfl) (tn 2 (kb (b := p.fKind == 2) (d := true) (by rw [hk]; rfl) z)))) ?_; refine NXW (pcT s els (brs ++ [((els.length : Nat) : Int)]) refs p) z (by kernel_rfl) ?_ (by kernel_rfl) ?_
 ·refine Vaz (S' := pcS s els brs refs p) (WK (by kernel_rfl)) ?_; exact Vb5 (c' := .region 6 (Va8 6 Tryz.f52) true) (by kernel_rfl) (pc6 s els brs refs p hb)
 refine NXW (pcT s (els ++ [opnE p refs]) (brs ++ [((els.length : Nat) : Int)]) refs p) (tn 3 z) (by kernel_rfl) ?_ (by kernel_rfl) ?_
 ·refine Vaz (S' := pcS s els (brs ++ [((els.length : Nat) : Int)]) refs p) (WK (by kernel_rfl)) ?_; exact Vb5 (c' := .region 7 (Va8 7 Tryz.f52) true) (by kernel_rfl) (pc7 s els (brs ++ [((els.length : Nat) : Int)]) refs p he)
 exact eNs
def scC (s : ByteArray) : ABox := .cells 149 [jS s, NOT, NOT]
def pcA (s : ByteArray) (i : Int) : DPiece := { (pceP s i).1 with fAt := i }
def SPB (s : ByteArray) (i : Int) : Prop := BYi s i ≠ 92 /\ BYi s i ≠ 38 /\ BYi s i ≠ 36 /\ BYi s i ≠ 96 /\ BYi s i ≠ 60 /\ BYi s i ≠ 123 /\ BYi s i ≠ 33 /\ BYi s i ≠ 42 /\ BYi s i ≠ 95 /\ BYi s i ≠ 126
theorem pcs1_to (s : ByteArray) (i : Int) (hs : s.size <= 1073741824) (h0 : 0 <= i) (h1 : i < s.size) (ha : A7 s) (hc : NoC s) (hk : SPB s i) :
  CallTo Tryz.prog 89 [jI i, .ptr 1000 0] [(1000, scC s)] [] (.av (.tup [Vbn (pcA s i), vB (pceP s i).2])) [(1000, scC s)] [] := by
 have hp := pceP_to s i hs h0 h1 ha hc hk; refine bGs Tryz.func89 ?_; refine gO (tn 4 (kc hp (tn 13 z))) ?_; exact eNs
theorem pis_to (s : ByteArray) (hs : s.size <= 1073741824) (hb : NoT s) : Vg5 Tryz.prog 51 [jS s] [(3, scC s)] (.fn 89 [] [.ptr 3 0]) := by
 have hr := rns_to s hs hb; refine BEGn Tryz.func51 (by kernel_rfl) ?_; refine gO (tn 3 (kc hr (tn 5 z))) ?_; exact eNs
structure RS where
 i : Int
 els : List DElem
 brs : List Int
 refs : Int
def PNext (s : ByteArray) (i : Int) (p : DPiece) (b : Bool) : Prop := CallTo Tryz.prog 89 [jI i, .ptr 1000 0] [(1000, scC s)] [] (.av (.tup [Vbn p, vB b])) [(1000, scC s)] []
def PTake (s : ByteArray) (p : DPiece) (a b : RS) : Prop := CallTo Tryz.prog 52 [.ptr 1000 0, .av (Vbn p)] (rdB s a.els a.brs a.refs) [] (jI b.i) (rdB s b.els b.brs b.refs) []
def Stp (s : ByteArray) (a b : RS) : Prop := a.i < s.size /\ ∃ p pl, PNext s a.i p pl /\ PTake s p a b
inductive Rdg (s : ByteArray) : Nat -> RS -> RS -> Prop
 | nil (a : RS) : Rdg s 0 a a
 | cons {n : Nat} {a b c : RS} (h : Stp s a b) (hr : Rdg s n b c) : Rdg s (n + 1) a c
theorem Rdg.trans {s : ByteArray} {n m : Nat} {a b c : RS} (h : Rdg s n a b) (k : Rdg s m b c) : Rdg s (n + m) a c := by
 induction h with
 | nil a => rw [Zx]; exact k
 | cons h hr ih => rw [Nat.add_right_comm]; exact .cons h (ih k)
def rdL (s : ByteArray) (a : RS) : St := sx 66 [(0, .ptr 1000 0), (3, .fn 89 [] [.ptr 3 0]), (4, .fn 52 [.ptr 1000 0] []), (5, jI a.i)] ((3, scC s) :: rdB s a.els a.brs a.refs) []
theorem rd1 (s : ByteArray) (hs : s.size <= 1073741824) (hb : NoT s) : W Tryz.prog (.region 1 (Va8 1 Tryz.f23) false) (fun e S1 => e = .normal /\ Weak S1 (sx 66 [(0, .ptr 1000 0), (3, .fn 89 [] [.ptr 3 0])] ((3, scC s) :: rdB s [] [] 0) [])) (sx 66 [(0, .ptr 1000 0)] (rdB s [] [] 0) []) := by
 refine Vah ?_; rw [show (Va8 1 Tryz.f23).toList = [regO 1 Tryz.f23 0, regO 1 Tryz.f23 1, regO 1 Tryz.f23 2, regO 1 Tryz.f23 3, regO 1 Tryz.f23 4, regO 1 Tryz.f23 5] by kernel_rfl]; refine Viu (S' := sx 66 [(0, .ptr 1000 0), (13, jS s)] (rdB s [] [] 0) []) 4 ?_ ?_
 ·exact Vkt (cs := [True, True, True, True]) [] 66 [(0, .ptr 1000 0), (13, jS s)] (rdB s [] [] 0) [] ⟨trivial, trivial, trivial, trivial, trivial⟩ (by kernel_rfl) (WK (by kernel_rfl))
 refine WO_new (nb := [(3, scC s)]) (res := .fn 89 [] [.ptr 3 0]) (f := 51) (x := .func 51) (args := #[.tmp 13]) (tys := #[9]) (fs := []) (cs := []) 14 (by kernel_rfl) (by kernel_rfl) rfl (Vc6 (by kernel_rfl) (pis_to s hs hb)) (by kernel_rfl) (by kernel_rfl) ?_; refine Vav (.fn 89 [] [.ptr 3 0]) 3 (by kernel_rfl) (by kernel_rfl) ?_; exact Vbp rfl ⟨rfl, WK (by kernel_rfl)⟩
theorem nesR_to (els : List DElem) (he : els.length <= 536870912) (hN : NsOk els 0 els.length) : CallTo Tryz.prog 57 [.vs 2001 els.length] [(2001, elB els)] [] (jL ((nstM els 0 els.length).map Va1)) [(2001, .vck 107 21 (els.map Vba))] [] := by
 have h := nes_to els 0 els.length (by omega) he hN
 have h2 : CallTo Tryz.prog 57 [.vw 2001 21 0 els.length] [(2001, elB els)] [] (jL ((nstM els 0 els.length).map Va1)) [(2001, .vck 107 21 (els.map Vba))] [] := Vc6 (by kernel_rfl) (Va3 (Vab (1001, 0) (2001, 0) rfl) h); refine Vg4 h2 (fun G w vs hv => ?_); obtain ⟨u, us, h1, hr, h3⟩ := hv; refine ⟨u, us, h1, ?_, h3⟩; rcases hr with ⟨h0, hu, _⟩ | ⟨blk, _, ho, hu, hc⟩
 ·exact ⟨none, 0, by rw [hu, h0], by omega, .inl h0⟩
 ·exact ⟨_, _, hu, hc, .inr ⟨blk, ho, by simp⟩⟩
theorem read_to (s : ByteArray) (hs : s.size <= 1073741824) (hb : NoT s) (n : Nat) (f : RS) (hR : Rdg s n ⟨0, [], [], 0⟩ f) (hf : s.size <= f.i) (hbr : f.brs = []) (he : f.els.length <= 536870912) (hN : NsOk f.els 0 f.els.length) (k : Nat) (hnb : nbN k (nstM f.els 0 f.els.length)) (h0 : 0 < (nstM f.els 0 f.els.length).length) (hk : ∀ x ∈ nstM f.els 0 f.els.length, x.fKind ≠ 2 /\ x.fKind ≠ 3) :
  CallTo Tryz.prog 23 [.ptr 1000 0] (rdB s [] [] 0) [] (jL ((nstM f.els 0 f.els.length).map Va1)) (rdB s f.els [] f.refs) [] := by
 obtain ⟨fi, fe, fb, fr⟩ := f; simp only at hf hbr he hN hnb h0 hk ⊢; subst hbr; refine bGs Tryz.func23 ?_; refine gO (tn 1 (kq 1 z)) ?_; refine NXW (sx 66 [(0, .ptr 1000 0), (3, .fn 89 [] [.ptr 3 0])] ((3, scC s) :: rdB s [] [] 0) []) (tn 4 z) (by kernel_rfl) ?_ (by kernel_rfl) ?_
 ·refine Vaz (S' := sx 66 [(0, .ptr 1000 0)] (rdB s [] [] 0) []) (WK (by kernel_rfl)) ?_; exact Vb5 (c' := .region 1 (Va8 1 Tryz.f23) false) (by kernel_rfl) (rd1 s hs hb)
 refine LP (n := n + 1) (fun N M S => ∃ (m : Nat) (a : RS), Rdg s m a ⟨fi, fe, [], fr⟩ /\ m < N /\ M = () /\ S = rdL s a) (by kernel_rfl) ⟨n, ⟨0, [], [], 0⟩, hR, by omega, rfl, rfl⟩ (WK (by kernel_rfl)) ?_; rintro n0 M S ⟨m, a, hRa, hF0, rfl, rfl⟩; obtain ⟨n0, rfl⟩ : ∃ k, n0 = k + 1 := ⟨n0 - 1, by omega⟩
 cases hRa with
 | cons h hr =>
  rename_i m b; obtain ⟨hlt, p, pl, hn, ht⟩ := h
  have hd : decide (a.i < ((ByteArray.size s : Nat) : Int)) = true := dT hlt
  have hn2 : CallTo Tryz.prog 89 [jI a.i, .ptr 3 0] [(3, scC s)] [] (.av (.tup [Vbn p, vB pl])) [(3, scC s)] [] := Vc6 (by kernel_rfl) (Va3 (Vab (3, 0) (1000, 0) rfl) hn); refine gO (tn 7 (kb hd (tn 2 (kg hn2 trivial (tn 8 (kg ht trivial (tn 1 z))))))) ?_; exact AG (m := n0) ⟨m, b, hr, by omega, rfl, rfl⟩ (WK (by kernel_rfl)) (by kernel_rfl) (Ze _)
 | nil =>
  have hd : decide (fi < ((ByteArray.size s : Nat) : Int)) = false := dF (by omega)
  have hc := nesR_to fe he hN
  have hi := inb_to k _ hnb
  have ho := oub_to (nstM fe 0 fe.length) hnb.len h0 hk; refine gO (tn 7 (kb hd z)) ?_; refine OUT (tn 6 z) (by kernel_rfl) ?_; refine uN (sx 66 [(0, .ptr 1000 0), (37, jI 0), (38, jI 0)] (rdB s fe [] fr) []) 1 ?_; refine gO (tn 1 (kb (b := decide ((0 : Int) < (0 : Int))) (d := false) rfl z)) ?_; refine uO (tn 4 (kg hc trivial (kc hi (kc ho (tn 1 z))))) ?_; exact eNs
def WSP : ByteArray := ⟨#[32, 10]⟩
def rd4 (s : ByteArray) (els : List DElem) (brs : List Int) (refs : Int) : List (Nat × ABox) := [(4, rdC s els.length brs.length refs), (2001, elB els), (2002, brB brs)]
theorem Vlp {S S' : St} (h : Weak S S') : Vqh S S' := fun G w a hr => ⟨G, Step.refl G w, h G w a hr, fun _ _ => rfl⟩
def rdZ : Value := .agg #[.string ⟨#[]⟩, .slice none 0 0, .slice none 0 0, .int .i64 0]
def rdA (t : ByteArray) : SV := .ag [.av (vS t), .nil, .nil, .av (vI 0)]
theorem WO_rdr {ops : Array Oper} {o1 : Oper} {rest : List Oper} {Q : St -> Prop} {S : St} {t m d1 bt : Nat} {s : ByteArray}
  (ho1 : o1.op = .build t #[(0, .tmp m)]) (hd1 : o1.dst = some d1) (hg1 : o1.guard = none) (hi : tInfo Tryz.prog t = some (4, bt, some rdZ)) (hpl : Vmj Tryz.prog t = some [(0, 1), (1, 1), (2, 1), (3, 1)]) (hm : S.fr[m]? = some (.av (.val (.string s))))
  (h : WO Tryz.prog ops rest Q (S.put (some d1) (rdA s))) : WO Tryz.prog ops (o1 :: rest) Q S := by
 intro more Q' G w a hr hq
 have em : a.eval (.tmp m) = .string s := (hr.fr m _ hm).1
 have x1 : (execOp a.eval o1).run Tryz.prog w = .ok (.value (.agg #[.string s, .slice none 0 0, .slice none 0 0, .int .i64 0])) w := by
  unfold Vmj at hpl
  split at hpl
  ·rename_i fs hu
   have hmm := Eng.run_places w fs.toList _ hpl
   have hm2 : (fs.mapM (fun f => do pure (f.offset, <- sizeOf f.type)) : Sem (Array (Nat × Nat))).run Tryz.prog w = .ok #[(0, 1), (1, 1), (2, 1), (3, 1)] w := by
    rw [Array.mapM_eq_mapM_toList]; simp only [Sem.run_map, hmm, Result.andThen_ok]
   simp only [bind_pure_comp] at hm2
   have hf : Instr.fill (fun i : Nat => (#[(0, 1), (1, 1), (2, 1), (3, 1)] : Array (Nat × Nat))[i]?) #[.string ⟨#[]⟩, .slice none 0 0, .slice none 0 0, .int .i64 0] [(0, .string s)] = some #[.string s, .slice none 0 0, .slice none 0 0, .int .i64 0] := rfl; simp [execOp, ho1, Instr.build, Vaj hi, run_underlying' hu, hm2, em, rdZ]; rfl
  ·simp at hpl
 simp only [Zq, wpList]; rw [if_pos (Van hg1 a)]; refine .inl ?_; unfold Oper.wp; rw [x1, Oper.upon_value, hd1]; refine h more Q' G w _ (hr.put (some d1) ?_) hq; refine ⟨_, rfl, ⟨_, _, rfl, ⟨rfl, rfl⟩, _, _, rfl, rfl, _, _, rfl, rfl, _, _, rfl, ⟨rfl, rfl⟩, rfl⟩, ?_⟩; intro x hx; simp only [Zd, Zb, or_false] at hx; rcases hx with rfl | rfl | rfl | rfl <;> rfl
def rdP (t : ByteArray) : St := sx 24 [(4, .ptr 4 0)] [(4, .cells 52 [jS t, .nil, .nil, jI 0])] []
theorem pa3 (s t : ByteArray) (hs : s.size <= 262144) (ht : trmB s WSP = t) : W Tryz.prog (.region 3 (Va8 3 Tryz.f11) false) (fun e S1 => e = .normal /\ Weak S1 (rdP t)) (sx 24 [(0, jS s)] [] []) := by
 have htr := Vh0 s WSP (by omega) (by decide) (A7.lit (by decide)); rw [ht] at htr; refine Vah ?_; rw [show (Va8 3 Tryz.f11).toList = [regO 3 Tryz.f11 0, regO 3 Tryz.f11 1, regO 3 Tryz.f11 2, regO 3 Tryz.f11 3, regO 3 Tryz.f11 4] by kernel_rfl]; refine Viu (S' := sx 24 [(10, jS t)] [] []) 2 ?_ ?_
 ·exact Vkt (cs := [True, _, True]) [cO htr] 24 [(10, jS t)] [] [] ⟨trivial, htr, trivial, trivial⟩ (by kernel_rfl) (WK (by kernel_rfl))
 refine WO_rdr (t := 52) (m := 10) (d1 := 11) (bt := 72) (s := t) (by kernel_rfl) (by kernel_rfl) (by kernel_rfl) (by kernel_rfl) (by kernel_rfl) (by kernel_rfl) ?_; exact Vkt (cs := [True, True]) [] 24 [(4, .ptr 4 0)] [(4, .cells 52 [jS t, .nil, .nil, jI 0])] [] ⟨trivial, trivial, trivial⟩ (by kernel_rfl) ⟨rfl, WK (by kernel_rfl)⟩
theorem par_to (s t : ByteArray) (els : List DElem) (refs : Int) (l : List DInline) (hs : s.size <= 262144) (ht : trmB s WSP = t)
  (hR : CallTo Tryz.prog 23 [.ptr 1000 0] (rdB t [] [] 0) [] (jL (l.map Va1)) (rdB t els [] refs) [])
  (k : Nat) (hk : k <= 1000) (hnb : nbN k l) (hz : szN k l <= 32768) (r : AV) (hr : r = if dptN k l <= 16 then .tup [.sl (l.map Va1), vI 0] else .tup [.sl [], vI 11]) :
  CallTo Tryz.prog 11 [jS s] [] [] (.av r) [] [] := by
 have hd : decide (((ByteArray.size s : Nat) : Int) > 262144) = false := decide_eq_false (by omega)
 have htr := Vh0 s WSP (by omega) (by decide) (A7.lit (by decide)); rw [ht] at htr
 have hR4 : CallTo Tryz.prog 23 [.ptr 4 0] (rd4 t [] [] 0) [] (jL (l.map Va1)) (rd4 t els [] refs) [] := Vc6 (by kernel_rfl) (Va3 (Vab (4, 0) (1000, 0) rfl) hR)
 have hsz := size_to k l hnb (by omega)
 have w1 := wrE (((1 + szN k l : Nat) : Int) - 1) ((szN k l : Nat) : Int) (by omega)
 have hd2 : decide (((szN k l : Nat) : Int) > 32768) = false := decide_eq_false (by omega)
 have hdp := depth_to k l hk hnb
 have hu1 : Uni 11 [blk1 l] := uni_one rfl rfl
 by_cases h16 : dptN k l <= 16
 ·rw [if_pos h16] at hr; subst hr
  have hd3 : decide (((dptN k l : Nat) : Int) > 16) = false := decide_eq_false (by omega); refine bG Tryz.func11 ?_; refine gO (tn 5 (kb hd (kq 3 z))) ?_; refine NXW (rdP t) (kq 4 z) (by kernel_rfl) ?_ (by kernel_rfl) ?_
  ·refine Vaz (S' := sx 24 [(0, jS s)] [] []) (WK (by kernel_rfl)) ?_; exact Vb5 (c' := .region 3 (Va8 3 Tryz.f11) false) (by kernel_rfl) (pa3 s t hs ht)
  refine TELLB 4 1 2001 107 21 (by kernel_rfl) ?_; refine TELLB 4 2 2002 3 1 (by kernel_rfl) ?_; refine GHOST (S' := sx 24 [(4, .ptr 4 0)] (rd4 t [] [] 0) []) (Vlp (WK (by kernel_rfl))) ?_; refine gO (kg hR4 trivial (tn 3 (kp hu1 (tn 1 (kc hsz (kn w1 (tn 1 (kb hd2 (tn 1 (kc hdp (tn 1 (kb hd3 (tn 3 z))))))))))))) ?_; exact eN
 ·rw [if_neg h16] at hr; subst hr
  have hd3 : decide (((dptN k l : Nat) : Int) > 16) = true := decide_eq_true (by omega); refine bG Tryz.func11 ?_; refine gO (tn 5 (kb hd (kq 3 z))) ?_; refine NXW (rdP t) (kq 4 z) (by kernel_rfl) ?_ (by kernel_rfl) ?_
  ·refine Vaz (S' := sx 24 [(0, jS s)] [] []) (WK (by kernel_rfl)) ?_; exact Vb5 (c' := .region 3 (Va8 3 Tryz.f11) false) (by kernel_rfl) (pa3 s t hs ht)
  refine TELLB 4 1 2001 107 21 (by kernel_rfl) ?_; refine TELLB 4 2 2002 3 1 (by kernel_rfl) ?_; refine GHOST (S' := sx 24 [(4, .ptr 4 0)] (rd4 t [] [] 0) []) (Vlp (WK (by kernel_rfl))) ?_; refine gO (kg hR4 trivial (tn 3 (kp hu1 (tn 1 (kc hsz (kn w1 (tn 1 (kb hd2 (tn 1 (kc hdp (tn 1 (kb hd3 (tn 2 z))))))))))))) ?_; exact eN
end Go.Proofs.YthbpjmogdonlkaaGreatDoor
set_option maxRecDepth 100000
namespace Go.Proofs.YthbpjmogdonlkaaGreatDoor
open Go Go.Eng
def At (s : ByteArray) (i : Nat) (u : List UInt8) : Prop := ∃ a z, s.data.toList = a ++ (u ++ z) /\ a.length = i
theorem At.size {s : ByteArray} {i : Nat} {u : List UInt8} (h : At s i u) : i + u.length <= s.size := by
 obtain ⟨a, z, h, rfl⟩ := h
 have : s.size = s.data.toList.length := by simp
 rw [this, h]; simp
theorem Vno (s : ByteArray) (i : Nat) : byt s i = (s.data.toList.getD i 0).toNat := by
 unfold byt; rw [Array.getD_eq_getD_getElem?, Zv, Array.getElem?_toList]
theorem At.byt {s : ByteArray} {i : Nat} {b : UInt8} {u : List UInt8} (h : At s i (b :: u)) : byt s i = b.toNat := by
 obtain ⟨a, z, h, rfl⟩ := h; rw [Vno, h]; simp
theorem At.left {s : ByteArray} {i : Nat} {u v : List UInt8} (h : At s i (u ++ v)) : At s i u := by
 obtain ⟨a, z, h, hl⟩ := h; exact ⟨a, v ++ z, by rw [h, Zr], hl⟩
theorem At.right {s : ByteArray} {i : Nat} {u v : List UInt8} (h : At s i (u ++ v)) : At s (i + u.length) v := by
 obtain ⟨a, z, h, hl⟩ := h; exact ⟨a ++ u, z, by rw [h]; simp [Zr], by simp [hl]⟩
theorem At.tail {s : ByteArray} {i : Nat} {b : UInt8} {u : List UInt8} (h : At s i (b :: u)) : At s (i + 1) u := At.right (u := [b]) h
theorem Vnh (s : ByteArray) (i j : Nat) : (s.extract i j).data.toList = (s.data.toList.drop i).take (j - i) := by simp [List.extract_eq_take_drop]
theorem At.ext {s : ByteArray} {i : Nat} {u : List UInt8} (h : At s i u) : s.extract i (i + u.length) = ⟨u.toArray⟩ := by
 obtain ⟨a, z, h, rfl⟩ := h; apply ByteArray.ext; apply Z7.1; rw [Vnh, h]; rw [show a.length + u.length - a.length = u.length by omega]; simp
theorem At.rest {s : ByteArray} {i : Nat} {u : List UInt8} (h : At s i u) : ∃ z, (s.extract i s.size).data.toList = u ++ z /\ ∀ b ∈ z, b ∈ s.data.toList := by
 obtain ⟨a, z, h, rfl⟩ := h; refine ⟨z, ?_, fun b hb => by rw [h]; simp [hb]⟩
 have e : s.size = s.data.toList.length := by simp
 rw [Vnh, e, h]; simp only [List.drop_left]; rw [Zh]; simp
theorem At.all (s : ByteArray) : At s 0 s.data.toList := ⟨[], [], by simp, rfl⟩
theorem Vgw {s : ByteArray} {i : Nat} {b : UInt8} {u : List UInt8} (h : At s i (b :: u)) : BYi s ((i : Nat) : Int) = ((b.toNat : Nat) : Int) := by
 unfold BYi; rw [Za, h.byt]
def Let (b : UInt8) : Prop := 97 <= b.toNat /\ b.toNat <= 122
def Lets (w : List UInt8) : Prop := ∀ b ∈ w, Let b
theorem Lets.LetS {w : List UInt8} (h : Lets w) : LetS ⟨w.toArray⟩ := by
 intro j hj
 have hj : j < w.length := hj; rw [Vno]
 have e : (Zs w.toArray).data.toList = w := by simp
 rw [e, Zv, Zk hj]; exact h _ (List.getElem_mem hj)
theorem letA_let {b : UInt8} (h : Let b) : letA ((b.toNat : Nat) : Int) = true := by
 unfold letA; rw [show decide (((b.toNat : Nat) : Int) >= 97) = true from decide_eq_true (by have := h.1; omega), show decide (((b.toNat : Nat) : Int) <= 122) = true from decide_eq_true (by have := h.2; omega)]; rfl
theorem inN_let {b : UInt8} (h : Let b) : inN ((b.toNat : Nat) : Int) = true := by
 obtain ⟨h1, h2⟩ := h; unfold inN; rw [beq_false_of_ne (show ((b.toNat : Nat) : Int) ≠ 45 by omega), beq_false_of_ne (show ((b.toNat : Nat) : Int) ≠ 95 by omega), beq_false_of_ne (show ((b.toNat : Nat) : Int) ≠ 46 by omega), beq_false_of_ne (show ((b.toNat : Nat) : Int) ≠ 58 by omega), letA_let ⟨h1, h2⟩]; rfl
theorem wrdL (s : ByteArray) (i : Int) (c : UInt8) (hc : inN ((c.toNat : Nat) : Int) = false) : ∀ (w : List UInt8) (v n : Nat), Lets w -> At s v (w ++ [c]) -> w.length < n -> wrdA_L0 s i n ((v : Nat) : Int) = ((v + w.length : Nat) : Int)
 | [], v, n, _, ha, hn => by
  obtain ⟨n, rfl⟩ : ∃ k, n = k + 1 := ⟨n - 1, by simp at hn; omega⟩
  have hs := ha.size
  have hb := ha.byt; simp only [Z9, Z3] at hs; unfold wrdA_L0; rw [show decide (((v : Nat) : Int) < ((ByteArray.size s : Nat) : Int)) = true from decide_eq_true (by omega), Za, hb, hc]; rfl
 | b :: w, v, n, hL, ha, hn => by
  obtain ⟨n, rfl⟩ : ∃ k, n = k + 1 := ⟨n - 1, by simp at hn; omega⟩
  have hs := ha.size
  have hb := ha.byt; simp only [Zq, Zc] at hs hn
  have ih := wrdL s i c hc w (v + 1) n (fun x hx => hL x (by simp [hx])) ha.tail (by omega); unfold wrdA_L0; rw [show decide (((v : Nat) : Int) < ((ByteArray.size s : Nat) : Int)) = true from decide_eq_true (by omega), Za, hb, inN_let (hL b (by simp))]; rw [show ((v : Nat) : Int) + 1 = ((v + 1 : Nat) : Int) by omega]; simp only [cond_true, Zc]; rw [ih]; congr 1; omega
theorem wrd_at {s : ByteArray} {i : Nat} {w : List UInt8} {c : UInt8} (hc : inN ((c.toNat : Nat) : Int) = false) (hL : Lets w) (ha : At s i (w ++ [c])) : wrdA s ((i : Nat) : Int) = ((i + w.length : Nat) : Int) := by
 have hs := ha.size; simp only [Zg, Z3] at hs; exact wrdL s _ c hc w i _ hL ha (by rw [Za]; omega)
theorem wrdE (s : ByteArray) (i : Int) : ∀ (w : List UInt8) (v n : Nat), Lets w -> At s v w -> v + w.length = s.size -> w.length < n -> wrdA_L0 s i n ((v : Nat) : Int) = ((v + w.length : Nat) : Int)
 | [], v, n, _, ha, he, hn => by
  obtain ⟨n, rfl⟩ : ∃ k, n = k + 1 := ⟨n - 1, by simp at hn; omega⟩
  simp only [Zp] at he; unfold wrdA_L0; rw [show decide (((v : Nat) : Int) < ((ByteArray.size s : Nat) : Int)) = false from decide_eq_false (by omega)]; rfl
 | b :: w, v, n, hL, ha, he, hn => by
  obtain ⟨n, rfl⟩ : ∃ k, n = k + 1 := ⟨n - 1, by simp at hn; omega⟩
  have hb := ha.byt; simp only [Zc] at he hn
  have ih := wrdE s i w (v + 1) n (fun x hx => hL x (by simp [hx])) ha.tail (by omega) (by omega); unfold wrdA_L0; rw [show decide (((v : Nat) : Int) < ((ByteArray.size s : Nat) : Int)) = true from decide_eq_true (by omega), Za, hb, inN_let (hL b (by simp))]; rw [show ((v : Nat) : Int) + 1 = ((v + 1 : Nat) : Int) by omega]; simp only [cond_true, Zc]; rw [ih]; congr 1; omega
theorem nam_let {w : List UInt8} (hL : Lets w) (h0 : 0 < w.length) (h1 : w.length <= 60) : namA ⟨w.toArray⟩ = true := by
 have ha : At ⟨w.toArray⟩ 0 w := by simpa using At.all ⟨w.toArray⟩
 have hz : (Zs w.toArray).size = w.length := rfl
 have e := wrdE ⟨w.toArray⟩ 0 w 0 (((Zs w.toArray).size - Int.toNat 0) + 1) hL ha (by simp [hz]) (by simp [hz]); obtain ⟨b, u, rfl⟩ : ∃ b u, w = b :: u := Zj h0
 have hb := ha.byt; unfold namA; rw [hz, hb, letA_let (hL b (by simp))]; rw [beq_false_of_ne (show (((b :: u).length : Nat) : Int) ≠ 0 by omega), show decide ((((b :: u).length : Nat) : Int) > 60) = false from decide_eq_false (by omega)]; simp only [cond_false, cond_true, Bool.not_true]; rw [beq_iff_eq]; unfold wrdA; simpa using e
theorem bytI_lt (s : ByteArray) (j : Nat) : 0 <= ((byt s j : Nat) : Int) /\ ((byt s j : Nat) : Int) < 256 := by
 show 0 <= (((s.data.getD j 0).toNat : Nat) : Int) /\ (((s.data.getD j 0).toNat : Nat) : Int) < 256
 have := (s.data.getD j 0).toNat_lt; omega
theorem size_push (s : ByteArray) (b : UInt8) : (s.push b).size = s.size + 1 := by simp
theorem escL_bd (s : ByteArray) (i : Int) (h : 0 <= i /\ i < s.size) : i <= cond (escL s i) (i + 1) i /\ cond (escL s i) (i + 1) i < s.size := by
 cases he : escL s i with
 | false => simp only [cond_false]; omega
 | true =>
  simp only [cond_true]; refine ⟨by omega, ?_⟩; unfold escL at he
  by_cases h2 : i + 1 < (s.size : Int)
  ·exact h2
  ·exfalso
   have hd : decide ((i + 1 : Int) < ((ByteArray.size s : Nat) : Int)) = false := decide_eq_false h2; simp [hd] at he
def uneS_L0 (s : ByteArray) : Nat -> Int -> ByteArray -> ByteArray
 | 0, _, _ => default
 | n0 + 1, v4, vb3_1 => cond (decide ((v4 : Int) < ((ByteArray.size s : Nat) : Int))) (uneS_L0 s n0 ((cond (escL s v4) (v4 + 1) v4) + 1) (ByteArray.push vb3_1 (u8 ((byt s (Int.toNat (cond (escL s v4) (v4 + 1) v4)) : Nat) : Int)))) vb3_1
def uneS (s : ByteArray) : ByteArray := uneS_L0 s ((s.size - Int.toNat 0) + 1) 0 (⟨#[]⟩)
theorem uneS_to (s : ByteArray) (hs : s.size <= 1073741824) (h0 : 0 < s.size) : CallTo Tryz.prog 280 [(jS s)] [] [] (jS (uneS s)) [] [] := by
 refine BEG (fun r : ByteArray => (jS r)) (uneS s) Tryz.func280 (by kernel_rfl) ?_; refine UF (uneS.eq_1 ..) ?_; refine GO (tn 2 (kq 2 z)) (by kernel_rfl) ?_; refine RT [(3, 0, (.son 3)), (3, 1, (.own (1300, 6) 0 1 (Va2 (⟨#[]⟩))))] (ac (show (AV.val (.pointer none)) = .val (.pointer none) from rfl) (ac (show (Va2 ⟨#[]⟩ : List AV) = [] /\ 0 < 6 /\ (0 : Nat) = 0 from ⟨rfl, by decide, rfl⟩) an)) (by kernel_rfl) ?_; refine GO (tn 1 z) (by kernel_rfl) ?_; refine LP (fun N M S => ∃ v4 : Int, ∃ gvb3_1 : Nat, ∃ vb3_1 : ByteArray, (0 <= v4 /\ v4 <= s.size) /\ ((vb3_1.size : Int) <= v4 /\ (0 < v4 -> 0 < vb3_1.size)) /\ (s.size - Int.toNat v4 < N) /\ M = uneS_L0 s N v4 vb3_1 /\ S = (sx 21 [(0, (jS s)), (3, (.ptr 3 0)), (4, (jI v4))] [(3, (.cells 80 [(.son 3), (.own (1300, 6) gvb3_1 1 (Va2 vb3_1))]))] [((1300, 6), gvb3_1)])) (by kernel_rfl) ⟨_, 0, _, by omega, ⟨by decide, by omega⟩, by omega, rfl, rfl⟩ (WK (by kernel_rfl)) ?_; rintro n0 M S ⟨v4, gvb3_1, vb3_1, hv, hz, hF0, rfl, rfl⟩; obtain ⟨n0, rfl⟩ : ∃ k, n0 = k + 1 := ⟨n0 - 1, by omega⟩
 refine UF (uneS_L0.eq_2 ..) ?_; refine GO (tn 4 z) (by kernel_rfl) ?_; refine CSd (fun h1p h1 => ?_) (fun h1p h1 => ?_)
 ·have := escL_bd s v4 (by omega)
  have := cond_or (escL s v4) (v4 + 1) v4; refine GO (kb h1 (tn 2 (kc (escL_to s v4 (by first | assumption | omega | decide | (simp; done) | (simp; omega)) (by first | assumption | omega | decide | (simp; done) | (simp; omega)) (by first | assumption | omega | decide | (simp; done) | (simp; omega))) (ks (escL s v4) [4] (tn 1 (hn (fun h => by have j0 := h.2; exact (wrE (v4 + 1) (v4 + 1) (by omega))) (tn 1 z))) z (tn 2 (kp (ib s (cond (escL s v4) (v4 + 1) v4) (by omega)) (kg (Va3 (Vab (3, 0) (1000, 0) rfl) (Vqa vb3_1 ((byt s (Int.toNat (cond (escL s v4) (v4 + 1) v4)) : Nat) : Int) gvb3_1 (by first | assumption | omega | decide | (simp; done) | (simp; omega)) (bytI_lt _ _))) (show (gvb3_1 : Nat) = gvb3_1 /\ True from ⟨rfl, trivial⟩) (tn 1 (kn (wrE ((cond (escL s v4) (v4 + 1) v4) + 1) ((cond (escL s v4) (v4 + 1) v4) + 1) (by omega)) (tn 1 z)))))))))) (by kernel_rfl) ?_; exact AG ⟨_, gvb3_1 + 1, _, by omega, by rw [size_push]; omega, by omega, rfl, rfl⟩ (WK (by kernel_rfl)) (by kernel_rfl) (Ze _)
 ·refine GO (kb h1 z) (by kernel_rfl) ?_; refine OUT (kg (Va3 (Vab (3, 0) (1000, 0) rfl) (Vgs (.son 1000) 1300 gvb3_1 vb3_1 (by omega) (by omega))) (show (gvb3_1 : Nat) = gvb3_1 /\ True from ⟨rfl, trivial⟩) (tn 1 z)) (by kernel_rfl) ?_; exact EN (by kernel_rfl)
theorem uneS_any (s : ByteArray) : True := trivial
theorem opn_step (e a b : Bool) (v lo : Int) (h : lo <= v) : lo - 1 <= cond e v (cond a (v + 1) (cond b (v - 1) v)) := by
 cases e <;> cases a <;> cases b <;> simp <;> omega
def dstS_L0 (s : ByteArray) (i : Int) : Nat -> Int -> Int -> (ByteArray × Int × Bool)
 | 0, _, _ => default
 | n0 + 1, v7, v8 => cond (decide ((v8 : Int) < ((ByteArray.size s : Nat) : Int))) (cond (cond (cond (((byt s (Int.toNat v8) : Nat) : Int) == 32) true (((byt s (Int.toNat v8) : Nat) : Int) == 10)) true (cond (((byt s (Int.toNat v8) : Nat) : Int) == 41) ((v7 : Int) == 0) false)) (cond (cond ((v8 : Int) == i) true (decide ((v7 : Int) > 0))) (⟨#[]⟩, 0, false) (uneS (ByteArray.extract s (Int.toNat i) (Int.toNat v8)), v8, true)) (cond (decide ((cond (escL s v8) v7 (cond (((byt s (Int.toNat v8) : Nat) : Int) == 40) (v7 + 1) (cond (((byt s (Int.toNat v8) : Nat) : Int) == 41) (v7 - 1) v7)) : Int) > 8)) (⟨#[]⟩, 0, false) (dstS_L0 s i n0 (cond (escL s v8) v7 (cond (((byt s (Int.toNat v8) : Nat) : Int) == 40) (v7 + 1) (cond (((byt s (Int.toNat v8) : Nat) : Int) == 41) (v7 - 1) v7))) ((cond (escL s v8) (v8 + 1) v8) + 1)))) (cond (cond ((v8 : Int) == i) true (decide ((v7 : Int) > 0))) (⟨#[]⟩, 0, false) (uneS (ByteArray.extract s (Int.toNat i) (Int.toNat v8)), v8, true))
def dstS (s : ByteArray) (i : Int) : (ByteArray × Int × Bool) := cond (cond (decide ((i : Int) < 0)) true (decide ((i : Int) >= ((ByteArray.size s : Nat) : Int)))) (⟨#[]⟩, 0, false) (cond (((byt s (Int.toNat i) : Nat) : Int) == 60) (default) (dstS_L0 s i ((s.size - Int.toNat i) + 1) 0 i))
theorem dstS_to (s : ByteArray) (i : Int) (hs : s.size <= 1073741824) (h0 : 0 <= i) (h1 : i <= 1073741833) (hlt : i < s.size -> ((byt s (Int.toNat i) : Nat) : Int) ≠ 60) : CallTo Tryz.prog 239 [(jS s), (jI i)] [] [] (.av (.tup [(vS ((dstS s i).1)), (vI ((dstS s i).2.1)), (vB ((dstS s i).2.2))])) [] [] := by
 refine BEG (fun r : (ByteArray × Int × Bool) => (.av (.tup [(vS r.1), (vI r.2.1), (vB r.2.2)]))) (dstS s i) Tryz.func239 (by kernel_rfl) ?_; refine UF (dstS.eq_1 ..) ?_; refine GO (tn 6 (kj (decide ((i : Int) < 0)) z (tn 4 z) z)) (by kernel_rfl) ?_; refine CS (fun h1 => ?_) (fun h1 => ?_)
 ·refine GO (kb h1 (tn 3 z)) (by kernel_rfl) ?_; exact EN (by kernel_rfl)
 ·obtain ⟨h1a, h1o⟩ := Vbd h1
  have h1ap := of_decide_eq_false h1a
  have h1op := of_decide_eq_false h1o; refine GO (kb h1 (tn 2 (kp (ib s i (by omega)) (tn 1 z)))) (by kernel_rfl) ?_; refine CSe (fun h2p h2 => ?_) (fun h2p h2 => ?_)
  ·exfalso
   have := eq_of_beq h2; omega
  ·refine GO (kb h2 (tn 3 z)) (by kernel_rfl) ?_; refine LP (fun N M S => ∃ v7 : Int, ∃ v8 : Int, (i <= v8 /\ v8 <= s.size) /\ (i - v8 <= v7 /\ v7 <= 8) /\ (s.size - Int.toNat v8 < N) /\ M = dstS_L0 s i N v7 v8 /\ S = (sx 83 [(0, (jS s)), (1, (jI i)), (7, (jI v7)), (8, (jI v8))] [] [])) (by kernel_rfl) ⟨_, _, by omega, by omega, by omega, rfl, rfl⟩ (WK (by kernel_rfl)) ?_; rintro n0 M S ⟨v7, v8, hv, ho, hF0, rfl, rfl⟩; obtain ⟨n0, rfl⟩ : ∃ k, n0 = k + 1 := ⟨n0 - 1, by omega⟩
   refine UF (dstS_L0.eq_2 ..) ?_; refine GO (tn 4 z) (by kernel_rfl) ?_; refine CSd (fun h3p h3 => ?_) (fun h3p h3 => ?_)
   ·refine GO (kb h3 (tn 2 (kp (ib s v8 (by omega)) (tn 4 (kj (((byt s (Int.toNat v8) : Nat) : Int) == 32) z (tn 2 z) (tn 1 (kj (cond (((byt s (Int.toNat v8) : Nat) : Int) == 32) true (((byt s (Int.toNat v8) : Nat) : Int) == 10)) z (tn 3 (kj (((byt s (Int.toNat v8) : Nat) : Int) == 41) (tn 2 z) z z)) z))))))) (by kernel_rfl) ?_; refine CS (fun h4 => ?_) (fun h4 => ?_)
    ·refine GO (kb h4 z) (by kernel_rfl) ?_; refine OUT (tn 4 (kj ((v8 : Int) == i) z (tn 2 z) z)) (by kernel_rfl) ?_; refine CS (fun h5 => ?_) (fun h5 => ?_)
     ·refine GO (kb h5 (tn 3 z)) (by kernel_rfl) ?_; exact EN (by kernel_rfl)
     ·obtain ⟨h5a, h5o⟩ := Vbd h5
      have h5ap := ne_of_beq_false h5a
      have h5op := of_decide_eq_false h5o
      have := Vaw s (Int.toNat i) (Int.toNat v8)
      have := uneS_any (ByteArray.extract s (Int.toNat i) (Int.toNat v8)); refine GO (kb h5 (tn 3 (kp (show 0 <= (i : Int) /\ (i : Int) <= v8 /\ v8 <= ((ByteArray.size s : Nat) : Int) from (by first | omega | (simp only [Vak, true_and]; omega))) (kc (uneS_to (ByteArray.extract s (Int.toNat i) (Int.toNat v8)) (by first | assumption | omega | decide | (simp; done) | (simp; omega)) (by first | assumption | omega | decide | (simp; done) | (simp; omega))) (tn 4 z))))) (by kernel_rfl) ?_; exact EN (by kernel_rfl)
    ·obtain ⟨h4a, h4o⟩ := Vbd h4; obtain ⟨h4aa, h4ao⟩ := Vbd h4a
     have h4aap := ne_of_beq_false h4aa
     have h4aop := ne_of_beq_false h4ao
     have := escL_bd s v8 (by omega)
     have := cond_or (escL s v8) v7 (cond (((byt s (Int.toNat v8) : Nat) : Int) == 40) (v7 + 1) (cond (((byt s (Int.toNat v8) : Nat) : Int) == 41) (v7 - 1) v7))
     have := cond_or (escL s v8) (v8 + 1) v8; refine GO (kb h4 (tn 2 (kc (escL_to s v8 (by first | assumption | omega | decide | (simp; done) | (simp; omega)) (by first | assumption | omega | decide | (simp; done) | (simp; omega)) (by first | assumption | omega | decide | (simp; done) | (simp; omega))) (tn 1 (ks (escL s v8) [7, 8] (tn 1 (hn (fun h => by have j0 := h.2; exact (wrE (v8 + 1) (v8 + 1) (by omega))) (tn 1 z))) (tn 3 (ks (((byt s (Int.toNat v8) : Nat) : Int) == 40) [7] (tn 1 (hn (fun h => by have j0 := h.1.2; have j1 := h.2; have j1p := eq_of_beq j1; exact (wrE (v7 + 1) (v7 + 1) (by omega))) (tn 1 z))) (tn 3 (ks (((byt s (Int.toNat v8) : Nat) : Int) == 41) [7] (tn 1 (hn (fun h => by have j0 := h.1.1.2; have j1 := h.1.2; have j1p := ne_of_beq_false j1; have j2 := h.2; have j2p := eq_of_beq j2; exact (wrE (v7 - 1) (v7 - 1) (by omega))) (tn 1 z))) z z)) z)) (tn 2 z)))))) (by kernel_rfl) ?_; refine CSd (fun h6p h6 => ?_) (fun h6p h6 => ?_)
     ·refine GO (kb h6 (tn 3 z)) (by kernel_rfl) ?_; refine OUT z (by kernel_rfl) ?_; exact EN (by kernel_rfl)
     ·refine GO (kb h6 (tn 1 (kn (wrE ((cond (escL s v8) (v8 + 1) v8) + 1) ((cond (escL s v8) (v8 + 1) v8) + 1) (by omega)) (tn 1 z)))) (by kernel_rfl) ?_; exact AG ⟨_, _, by omega, by (refine ⟨?_, by omega⟩; have hq := opn_step (escL s v8) (((byt s (Int.toNat v8) : Nat) : Int) == 40) (((byt s (Int.toNat v8) : Nat) : Int) == 41) v7 (i - v8) (by omega); omega), by omega, rfl, rfl⟩ (WK (by kernel_rfl)) (by kernel_rfl) (Ze _)
   ·refine GO (kb h3 z) (by kernel_rfl) ?_; refine OUT (tn 4 (kj ((v8 : Int) == i) z (tn 2 z) z)) (by kernel_rfl) ?_; refine CS (fun h7 => ?_) (fun h7 => ?_)
    ·refine GO (kb h7 (tn 3 z)) (by kernel_rfl) ?_; exact EN (by kernel_rfl)
    ·obtain ⟨h7a, h7o⟩ := Vbd h7
     have h7ap := ne_of_beq_false h7a
     have h7op := of_decide_eq_false h7o
     have := Vaw s (Int.toNat i) (Int.toNat v8)
     have := uneS_any (ByteArray.extract s (Int.toNat i) (Int.toNat v8)); refine GO (kb h7 (tn 3 (kp (show 0 <= (i : Int) /\ (i : Int) <= v8 /\ v8 <= ((ByteArray.size s : Nat) : Int) from (by first | omega | (simp only [Vak, true_and]; omega))) (kc (uneS_to (ByteArray.extract s (Int.toNat i) (Int.toNat v8)) (by first | assumption | omega | decide | (simp; done) | (simp; omega)) (by first | assumption | omega | decide | (simp; done) | (simp; omega))) (tn 4 z))))) (by kernel_rfl) ?_; exact EN (by kernel_rfl)
def ctlM (s : ByteArray) : (ByteArray × ByteArray × Bool) := cond (decide ((idxB s 93 : Int) >= 0)) (ByteArray.extract s 0 (Int.toNat (idxB s 93)), ByteArray.extract s (Int.toNat ((idxB s 93) + ((ByteArray.size (⟨#[93]⟩) : Nat) : Int))) (ByteArray.size s), true) (s, ⟨#[]⟩, false)
theorem ctlM_to (s : ByteArray) (hs : s.size <= 1073741824) : CallTo Tryz.prog 302 [(jS s), (jS (⟨#[93]⟩))] [] [] (.av (.tup [(vS ((ctlM s).1)), (vS ((ctlM s).2.1)), (vB ((ctlM s).2.2))])) [] [] := by
 refine BEG (fun r : (ByteArray × ByteArray × Bool) => (.av (.tup [(vS r.1), (vS r.2.1), (vB r.2.2)]))) (ctlM s) Tryz.func302 (by kernel_rfl) ?_; refine UF (ctlM.eq_1 ..) ?_
 have := idxB_bd s 93
 have h93 : ByteArray.size (⟨#[93]⟩) = 1 := rfl; refine GO (tn 5 (kc (idx1_to s 93) (tn 3 z))) (by kernel_rfl) ?_; refine CSd (fun h1p h1 => ?_) (fun h1p h1 => ?_)
 ·refine GO (kb h1 z) (by kernel_rfl) ?_
  have := Vaw s 0 (Int.toNat (idxB s 93))
  have := Vaw s (Int.toNat ((idxB s 93) + ((ByteArray.size (⟨#[93]⟩) : Nat) : Int))) (ByteArray.size s)
  have d2 := wrE ((idxB s 93) + ((ByteArray.size (⟨#[93]⟩) : Nat) : Int)) ((idxB s 93) + ((ByteArray.size (⟨#[93]⟩) : Nat) : Int)) (by omega); refine DR3 (tn 2 (kp (show 0 <= (0 : Int) /\ (0 : Int) <= idxB s 93 /\ idxB s 93 <= ((ByteArray.size s : Nat) : Int) from (by first | omega | (simp only [Vak, true_and]; omega))) (tn 4 (ko (nO d2) (kp d2 (kp (show 0 <= ((idxB s 93) + ((ByteArray.size (⟨#[93]⟩) : Nat) : Int) : Int) /\ ((idxB s 93) + ((ByteArray.size (⟨#[93]⟩) : Nat) : Int) : Int) <= ((ByteArray.size s : Nat) : Int) /\ ((ByteArray.size s : Nat) : Int) <= ((ByteArray.size s : Nat) : Int) from (by first | omega | (simp only [Vak, true_and]; omega))) (tn 3 z))))))) (by kernel_rfl) (by kernel_rfl) (by kernel_rfl) ?_; exact EN (by kernel_rfl)
 ·refine GO (kb h1 (tn 4 z)) (by kernel_rfl) ?_; exact EN (by kernel_rfl)
def cutM (s : ByteArray) : (ByteArray × ByteArray × Bool) := ((ctlM s).1, (ctlM s).2.1, (ctlM s).2.2)
theorem cutM_to (s : ByteArray) (hs : s.size <= 1073741824) : CallTo Tryz.prog 276 [(jS s), (jS (⟨#[93]⟩))] [] [] (.av (.tup [(vS ((cutM s).1)), (vS ((cutM s).2.1)), (vB ((cutM s).2.2))])) [] [] := by
 refine BEG (fun r : (ByteArray × ByteArray × Bool) => (.av (.tup [(vS r.1), (vS r.2.1), (vB r.2.2)]))) (cutM s) Tryz.func276 (by kernel_rfl) ?_; refine UF (cutM.eq_1 ..) ?_; refine GO (tn 5 (kc (ctlM_to s (by first | assumption | omega | decide | (simp; done) | (simp; omega))) (tn 6 z))) (by kernel_rfl) ?_; exact EN (by kernel_rfl)
def lbS (s : ByteArray) (v : Nat) (l : List (Nat × SV)) : St := sx 36 ([(3, jS s), (13, .ptr 13 0)] ++ l) [(13, .it s v)] []
theorem lb4 (s : ByteArray) : W Tryz.prog (.region 4 (Va8 4 Tryz.f277) false) (fun e S1 => e = .normal /\ Weak S1 (lbS s 0 [])) (sx 36 [(3, jS s)] [] []) := by
 refine Vah ?_; rw [show (Va8 4 Tryz.f277).toList = [regO 4 Tryz.f277 0, regO 4 Tryz.f277 1] by kernel_rfl]; refine Vav (jS s) 12 (by kernel_rfl) (by kernel_rfl) ?_; refine Vfq (.ptr 13 0) 13 (by kernel_rfl) (Vj2 (t := 9) (x := .tmp 12) (s := s) (id := 13) (by kernel_rfl) (by kernel_rfl) (by kernel_rfl) (by decide) (by kernel_rfl)) ?_; exact Vbp rfl ⟨rfl, WK (by kernel_rfl)⟩
theorem lb5 (s : ByteArray) (v : Nat) (h : v < s.size) (ha : byt s v < 128) : W Tryz.prog (.region 5 (Va8 5 Tryz.f277) false) (fun e S1 => e = .normal /\ Weak S1 (lbS s (v + 1) [(14, .av (.tup [vB true, vI ((v : Nat) : Int), .val (.int .i32 ((byt s v : Nat) : Int))])), (15, jB true)])) (lbS s v []) := by
 refine Vah ?_; rw [show (Va8 5 Tryz.f277).toList = [regO 5 Tryz.f277 0, regO 5 Tryz.f277 1] by kernel_rfl]
 have hs := Vlf (P := Tryz.prog) (o := regO 5 Tryz.f277 0) (S := lbS s v []) (x := .tmp 13) (b := 13) (s := s) (pos := v) (by kernel_rfl) (by kernel_rfl) (by kernel_rfl) h; rw [dec_a h ha] at hs; refine Vfq (.av (.tup [vB true, vI ((v : Nat) : Int), .val (.int .i32 ((byt s v : Nat) : Int))])) 14 (by kernel_rfl) hs ?_; refine Vav (jB true) 15 (by kernel_rfl) (by kernel_rfl) ?_; exact Vbp rfl ⟨rfl, WK (by kernel_rfl)⟩
theorem lb5e (s : ByteArray) : W Tryz.prog (.region 5 (Va8 5 Tryz.f277) false) (fun e S1 => e = .normal /\ Weak S1 (lbS s s.size [(15, jB false)])) (lbS s s.size []) := by
 refine Vah ?_; rw [show (Va8 5 Tryz.f277).toList = [regO 5 Tryz.f277 0, regO 5 Tryz.f277 1] by kernel_rfl]; refine Vfq (.av (.tup [.val (.bool false)])) 14 (by kernel_rfl) (Vg9 (P := Tryz.prog) (o := regO 5 Tryz.f277 0) (S := lbS s s.size []) (x := .tmp 13) (b := 13) (s := s) (pos := s.size) (by kernel_rfl) (by kernel_rfl) (by kernel_rfl) (Nat.lt_irrefl _)) ?_; refine Vav (jB false) 15 (by kernel_rfl) (by kernel_rfl) ?_; exact Vbp rfl ⟨rfl, WK (by kernel_rfl)⟩
theorem letL_yes {c : Int} (h : 97 <= c /\ c <= 122) : letL c = true := by
 have h1 : decide (c >= 65) = true := decide_eq_true (by omega)
 have h2 : decide (c <= 90) = false := decide_eq_false (by omega)
 have h3 : decide (c >= 97) = true := decide_eq_true (by omega)
 have h4 : decide (c <= 122) = true := decide_eq_true (by omega); unfold letL; simp [h1, h2, h3, h4]
theorem label_to (s : ByteArray) (hs : s.size <= 60) (h0 : 0 < s.size) (hL : LetS s) : CallTo Tryz.prog 277 [jS s] [] [] (jS s) [] [] := by
 have hf := fold_to s (by omega) h0 hL
 have hd : decide (((ByteArray.size s : Nat) : Int) > 60) = false := decide_eq_false (by omega); refine bG Tryz.func277 ?_; refine gO (tn 2 (kc hf (tn 4 (kb hd (kq 4 z))))) ?_; refine NXW (lbS s 0 []) z (by kernel_rfl) ?_ (by kernel_rfl) ?_
 ·refine Vaz (S' := sx 36 [(3, jS s)] [] []) (WK (by kernel_rfl)) ?_; exact Vb5 (c' := .region 4 (Va8 4 Tryz.f277) false) (by kernel_rfl) (lb4 s)
 refine LP (n := s.size + 1) (fun N M S => ∃ (v : Nat), v <= s.size /\ s.size - v < N /\ M = () /\ S = lbS s v []) (by kernel_rfl) ⟨0, by omega, by omega, rfl, rfl⟩ (WK (by kernel_rfl)) ?_; rintro n0 M S ⟨v, hv, hF0, rfl, rfl⟩; obtain ⟨n0, rfl⟩ : ∃ k, n0 = k + 1 := ⟨n0 - 1, by omega⟩
 refine gO (kq 5 z) ?_
 by_cases h1 : v < s.size
 ·obtain ⟨c1, c2⟩ := hL v h1
  have hw : IntKind.wrap .i64 ((byt s v : Nat) : Int) = ((byt s v : Nat) : Int) := wrE _ _ (by omega)
  have hle := letL_to (IntKind.wrap .i64 ((byt s v : Nat) : Int))
  have hly : letL (IntKind.wrap .i64 ((byt s v : Nat) : Int)) = true := by rw [hw]; exact letL_yes (by omega)
  refine NXW (lbS s (v + 1) [(14, .av (.tup [vB true, vI ((v : Nat) : Int), .val (.int .i32 ((byt s v : Nat) : Int))])), (15, jB true)]) (kb (b := true) (d := true) rfl (tn 6 (kc hle (tn 1 (kb hly (kb hly z)))))) (by kernel_rfl) ?_ (by kernel_rfl) ?_
  ·refine Vaz (S' := lbS s v []) (WK (by kernel_rfl)) ?_; exact Vb5 (c' := .region 5 (Va8 5 Tryz.f277) false) (by kernel_rfl) (lb5 s v h1 (by omega))
  exact AG (m := n0) ⟨v + 1, by omega, by omega, rfl, rfl⟩ (WK (by kernel_rfl)) (by kernel_rfl) (Ze _)
 ·have hvs : v = s.size := by omega
  subst hvs; refine NXW (lbS s s.size [(15, jB false)]) (kb (b := false) (d := false) rfl z) (by kernel_rfl) ?_ (by kernel_rfl) ?_
  ·refine Vaz (S' := lbS s s.size []) (WK (by kernel_rfl)) ?_; exact Vb5 (c' := .region 5 (Va8 5 Tryz.f277) false) (by kernel_rfl) (lb5e s)
  refine OUT (tn 2 z) (by kernel_rfl) ?_; exact eN
theorem brk0_to (s : ByteArray) (i : Int) (h0 : 0 <= i) (h1 : i < s.size) (h2 : BYi s i ≠ 91) : CallTo Tryz.prog 237 [jS s, jI i] [] [] (.av (.tup [vS e0, vI 0, vB false])) [] [] := by
 have hd : decide (i >= ((ByteArray.size s : Nat) : Int)) = false := decide_eq_false (by omega)
 have hb : (BYi s i != 91) = true := by rw [bne_iff_ne]; exact h2
 refine bG Tryz.func237 ?_; refine gO (tn 8 (kb hd (tn 1 (kb hd (tn 1 (kb hd (kp (ib s i ⟨h0, h1⟩) (kb hd (tn 1 (kb hd (kb hb (tn 3 z)))))))))))) ?_; exact eN
theorem brk1_to (s : ByteArray) (i : Int) (y : ByteArray) (hs : s.size <= 1073741824) (h0 : 0 <= i) (h1 : i < s.size) (h2 : BYi s i = 91) (hc : (cutM (ByteArray.extract s (Int.toNat (i + 1)) (ByteArray.size s))).1 = y) (hf : (cutM (ByteArray.extract s (Int.toNat (i + 1)) (ByteArray.size s))).2.2 = true) (hy : y.size <= 60) (hy0 : 0 < y.size) (hL : LetS y) :
  CallTo Tryz.prog 237 [jS s, jI i] [] [] (.av (.tup [vS y, vI (i + y.size + 2), vB true])) [] [] := by
 have hd : decide (i >= ((ByteArray.size s : Nat) : Int)) = false := decide_eq_false (by omega)
 have hb : (BYi s i != 91) = false := by rw [h2]; rfl
 have w1 := wrE (i + 1) (i + 1) (by omega)
 have w2 := wrE (i + ((y.size : Nat) : Int)) (i + y.size) (by omega)
 have w3 := wrE (i + y.size + 2) (i + y.size + 2) (by omega)
 have hsl : 0 <= i + 1 /\ i + 1 <= ((ByteArray.size s : Nat) : Int) /\ ((ByteArray.size s : Nat) : Int) <= ((ByteArray.size s : Nat) : Int) := ⟨by omega, by omega, Int.le_refl _⟩
 have hcu := cutM_to (ByteArray.extract s (Int.toNat (i + 1)) (ByteArray.size s)) (by simp; omega)
 have hla := label_to y hy hy0 hL
 have hne : eqs y ⟨#[]⟩ = false := by
  cases h : eqs y ⟨#[]⟩ with
  | false => rfl
  | true => have := size_eqs_t h; omega
 generalize hq : cutM (ByteArray.extract s (Int.toNat (i + 1)) (ByteArray.size s)) = q at hc hf hcu; obtain ⟨q1, q2, q3⟩ := q; simp only at hc hf; subst hc hf; refine bG Tryz.func237 ?_; refine gO (tn 8 (kb hd (tn 1 (kb hd (tn 1 (kb hd (kp (ib s i ⟨h0, h1⟩) (kb hd (tn 1 (kb hd (kb hb (tn 2 (kn w1 (kp hsl (kc hcu (tn 8 (kc hla (tn 4 (kb (b := !true) (d := false) rfl (tn 1 (kb (b := !true) (d := false) rfl (tn 1 (kb (b := !true) (d := false) rfl (kb hne (tn 4 (kn w2 (kn w3 (tn 3 z)))))))))))))))))))))))))))) ?_; exact eN
def tupT (d t l : ByteArray) (to : Int) (ok : Bool) : SV := .av (.tup [vS d, vS t, vS l, vI to, vB ok])
theorem tail0_to (s : ByteArray) (i : Int) (h0 : 0 <= i) (h1 : i < s.size) (h2 : BYi s i ≠ 40) (h3 : BYi s i ≠ 91) : CallTo Tryz.prog 194 [jS s, jI i] [] [] (tupT e0 e0 e0 0 false) [] [] := by
 have hd1 : decide (i < 0) = false := decide_eq_false (by omega)
 have hd2 : decide (i >= ((ByteArray.size s : Nat) : Int)) = false := decide_eq_false (by omega)
 have hb : (BYi s i != 40) = true := by rw [bne_iff_ne]; exact h2
 have hc := brk0_to s i h0 h1 h3; refine bG Tryz.func194 ?_; refine gO (tn 8 (kb hd1 (tn 1 (kb hd1 (tn 1 (kb hd1 (tn 1 (kb hd1 (tn 1 (kb hd1 (kb hd2 (tn 2 (kp (ib s i ⟨h0, h1⟩) (tn 1 (kb hb (tn 2 (kc hc (tn 15 z)))))))))))))))))) ?_; exact eN
theorem tail2_to (s : ByteArray) (i : Int) (y : ByteArray) (hs : s.size <= 1073741824) (h0 : 0 <= i) (h1 : i < s.size) (h2 : BYi s i = 91) (hc : (cutM (ByteArray.extract s (Int.toNat (i + 1)) (ByteArray.size s))).1 = y) (hf : (cutM (ByteArray.extract s (Int.toNat (i + 1)) (ByteArray.size s))).2.2 = true) (hy : y.size <= 60) (hy0 : 0 < y.size) (hL : LetS y) :
  CallTo Tryz.prog 194 [jS s, jI i] [] [] (tupT e0 e0 y (i + y.size + 2) true) [] [] := by
 have hd1 : decide (i < 0) = false := decide_eq_false (by omega)
 have hd2 : decide (i >= ((ByteArray.size s : Nat) : Int)) = false := decide_eq_false (by omega)
 have hb : (BYi s i != 40) = true := by rw [h2]; rfl
 have hk := brk1_to s i y hs h0 h1 h2 hc hf hy hy0 hL; refine bG Tryz.func194 ?_; refine gO (tn 8 (kb hd1 (tn 1 (kb hd1 (tn 1 (kb hd1 (tn 1 (kb hd1 (tn 1 (kb hd1 (kb hd2 (tn 2 (kp (ib s i ⟨h0, h1⟩) (tn 1 (kb hb (tn 2 (kc hk (tn 15 z)))))))))))))))))) ?_; exact eN
theorem tail1_to (s : ByteArray) (i j : Int) (y : ByteArray) (hs : s.size <= 1073741824) (h0 : 0 <= i) (h2 : BYi s i = 40) (hij : i + 1 < j) (hj : j < s.size) (hb1 : BYi s (i + 1) ≠ 41) (hb2 : BYi s j = 41) (hs1 : skpL s (i + 1) = i + 1) (hs2 : skpL s j = j) (hlt : BYi s (i + 1) ≠ 60) (hd : dstS s (i + 1) = (y, j, true)) :
  CallTo Tryz.prog 194 [jS s, jI i] [] [] (tupT y e0 e0 (j + 1) true) [] [] := by
 have hd1 : decide (i < 0) = false := decide_eq_false (by omega)
 have hd2 : decide (i >= ((ByteArray.size s : Nat) : Int)) = false := decide_eq_false (by omega)
 have hb : (BYi s i != 40) = false := by rw [h2]; rfl
 have w1 := wrE (i + 1) (i + 1) (by omega)
 have w2 := wrE (j + 1) (j + 1) (by omega)
 have k1 := skpL_to s (i + 1) hs (by omega) (by omega); rw [hs1] at k1
 have k2 := skpL_to s j hs (by omega) (by omega); rw [hs2] at k2
 have hd3 : decide (i + 1 < ((ByteArray.size s : Nat) : Int)) = true := decide_eq_true (by omega)
 have hbe : (BYi s (i + 1) == 41) = false := beq_false_of_ne hb1
 have kd := dstS_to s (i + 1) hs (by omega) (by omega) (fun _ => hlt); rw [hd] at kd
 have hd4 : decide (j < ((ByteArray.size s : Nat) : Int)) = true := decide_eq_true (by omega)
 have hd5 : decide (j >= ((ByteArray.size s : Nat) : Int)) = false := decide_eq_false (by omega)
 have hbj : (BYi s j != 41) = false := by rw [hb2]; rfl
 have hi1 := ib s i ⟨h0, by omega⟩
 have hi2 := ib s (i + 1) ⟨by omega, by omega⟩
 have hi3 := ib s j ⟨by omega, by omega⟩; refine bG Tryz.func194 ?_; refine gO (tn 8 (kb hd1 (tn 1 (kb hd1 (tn 1 (kb hd1 (tn 1 (kb hd1 (tn 1 (kb hd1 (kb hd2 (tn 2 (kp hi1 (tn 1 (kb hb (tn 2 (kn w1 (kc k1 (tn 6 (kb hd3 (tn 1 (kb hd3 (tn 1 (kb hd3 (kp hi2 (kb hd3 (tn 1 (kb hd3 (kb hbe (tn 2 (kc kd (tn 9 (kb (b := !true) (d := false) rfl (kq 12 z)))))))))))))))))))))))))))))))))) ?_; refine gO (tn 2 (kc k2 (tn 6 (kb hd4 (tn 1 (kb hd4 (tn 1 (kb hd4 (kp hi3 (kb hd4 (tn 1 (kb hd4 (tn 1 (kb hbj (kb hbj (kb hbj (kb hbj (kb (b := false) (d := false) rfl (kq 18 z))))))))))))))))))) ?_; refine gO (tn 5 (kb hd5 (tn 1 (kb hd5 (tn 1 (kb hd5 (kp hi3 (kb hd5 (tn 1 (kb hd5 (kb hbj (tn 3 (kn w2 (tn 5 z)))))))))))))) ?_; exact eN
def idxS_L0 (s : List ByteArray) (v : ByteArray) : Nat -> Nat -> Int
 | 0, _ => default
 | n0 + 1, v8 => cond (decide (((v8 : Nat) : Int) < ((lenM Vam s : Nat) : Int))) (cond (eqs v (el s v8)) ((v8 : Nat) : Int) (idxS_L0 s v n0 (v8 + 1))) (-1)
def idxS (s : List ByteArray) (v : ByteArray) : Int := idxS_L0 s v ((List.length s - 0) + 1) 0
theorem idxS_to (s : List ByteArray) (v : ByteArray) (hs : s.length <= 1073741824) : CallTo Tryz.prog 316 [(jL (s.map Vam)), (jS v)] [] [] (jI (idxS s v)) [] [] := by
 refine BEG (fun r : Int => (jI r)) (idxS s v) Tryz.func316 (by kernel_rfl) ?_; refine UF (idxS.eq_1 ..) ?_; refine GO (tn 4 z) (by kernel_rfl) ?_; refine LP (fun N M S => ∃ v8 : Nat, (List.length s - v8 < N) /\ M = idxS_L0 s v N v8 /\ S = (sx 19 [(0, (jL (s.map Vam))), (1, (jS v)), (7, (jI ((lenM Vam s : Nat) : Int))), (8, (jI ((v8 : Nat) : Int)))] [] [])) (by kernel_rfl) ⟨_, by omega, rfl, rfl⟩ (WK (by kernel_rfl)) ?_; rintro n0 M S ⟨v8, hF0, rfl, rfl⟩; obtain ⟨n0, rfl⟩ : ∃ k, n0 = k + 1 := ⟨n0 - 1, by omega⟩
 refine UF (idxS_L0.eq_2 ..) ?_; refine GO (tn 1 z) (by kernel_rfl) ?_; refine CSd (fun h1p h1 => ?_) (fun h1p h1 => ?_)
 ·have := Vak Vam s; refine GO (kb h1 (tn 5 (ke (el_strAV s v8 (by omega)) (tn 2 z)))) (by kernel_rfl) ?_; refine CS (fun h2 => ?_) (fun h2 => ?_)
  ·refine GO (kb h2 (tn 2 z)) (by kernel_rfl) ?_; refine OUT z (by kernel_rfl) ?_; exact EN (by kernel_rfl)
  ·refine GO (kb h2 (kn (wrE (((v8 : Nat) : Int) + 1) ((v8 + 1 : Nat) : Int) (by omega)) (tn 1 z))) (by kernel_rfl) ?_; exact AG ⟨_, by omega, rfl, rfl⟩ (WK (by kernel_rfl)) (by kernel_rfl) (Ze _)
 ·have := Vak Vam s; refine GO (kb h1 z) (by kernel_rfl) ?_; refine OUT (tn 1 z) (by kernel_rfl) ?_; exact EN (by kernel_rfl)
def ctnS (s : List ByteArray) (v : ByteArray) : Bool := decide ((idxS s v : Int) >= 0)
theorem ctnS_to (s : List ByteArray) (v : ByteArray) (hs : s.length <= 1073741824) : CallTo Tryz.prog 314 [(jL (s.map Vam)), (jS v)] [] [] (jB (ctnS s v)) [] [] := by
 refine BEG (fun r : Bool => (jB r)) (ctnS s v) Tryz.func314 (by kernel_rfl) ?_; refine UF (ctnS.eq_1 ..) ?_; refine GO (tn 3 (kc (idxS_to s v (by omega)) (tn 2 z))) (by kernel_rfl) ?_; exact EN (by kernel_rfl)
def hasA (a : DAttr) (c : ByteArray) : Bool := ctnS a.fClasses c
theorem hasA_to (a : DAttr) (c : ByteArray) (ha : Vo2 a <= 1073741824) : CallTo Tryz.prog 303 [(.av (Vps a)), (jS c)] [] [] (jB (hasA a c)) [] [] := by
 have hwa := Vmc a; simp only [wStr] at hwa
 have hw_0 := Viw (w := wStr) Vmb a.fClasses
 have hw_1 := Viw (w := wPair) Vix a.fPairs; refine BEG (fun r : Bool => (jB r)) (hasA a c) Tryz.func303 (by kernel_rfl) ?_; refine UF (hasA.eq_1 ..) ?_; refine GO (tn 5 (kc (ctnS_to a.fClasses c (by omega)) (tn 1 z))) (by kernel_rfl) ?_; exact EN (by kernel_rfl)
def kCl : Key := (1301, 10)
def atB (i g : Nat) (cs : List ByteArray) : Nat × ABox := (i, .cells 39 [jS e0, .own kCl g 1 (cs.map Vam), .nil])
theorem okAt (i : Nat) (cs : List ByteArray) (g : Nat) : ∀ p ∈ [atB i g cs], ∀ s ∈ p.2.svs, OkSV [i] [(kCl, g)] s := by
 intro p hp s hs; simp only [Zd, Zb, or_false] at hp; subst hp; simp only [atB, ABox.svs, Zd, Zb, or_false] at hs; rcases hs with rfl | rfl | rfl
 ·simp [OkSV, SV.keys]
 ·simp [OkSV, kCl, List.lookup]
 ·simp [OkSV, SV.keys]
theorem acl_to (y : ByteArray) (g : Nat) : CallTo Tryz.prog 282 [.ptr 1000 0, jS y] [atB 1000 g []] [(kCl, g)] (jI 0) [atB 1000 (g + 1) [y]] [(kCl, g + 1)] := by
 have hh := hasA_to ⟨e0, [], []⟩ y (by decide)
 have hf : hasA ⟨e0, [], []⟩ y = false := rfl
 have hu : Uni 1 [vS y] := uni_one rfl rfl
 have hap : g = g /\ Uni 1 [vS y] /\ ((([] : List ByteArray).map Vam).length + ([vS y] : List AV).length) * 16 <= 140737488355328 := ⟨rfl, hu, by simp⟩
 refine BEGb (fun _ : Unit => jI 0) () Tryz.func282 (by kernel_rfl) (by simp [atB]) (by simp [kCl]) (by simp [OkSV, SV.keys, atB]) (okAt 1000 [] g) (by simp [OkSV, SV.keys]) (okAt 1000 [y] (g + 1)) rfl rfl ?_ (by simp [atB]); refine gO (tn 5 (kc hh (kb hf (tn 6 (kb (b := decide ((0 : Int) >= 32)) (d := false) rfl (tn 6 (kp hu (kp hap (kw (show ((([] : List ByteArray).map Vam) ++ [vS y] : List AV) = ([y] : List ByteArray).map Vam from rfl) (tn 4 z)))))))))) ?_; refine ENb (by kernel_rfl) ?_ ?_
 ·intro p hp; simp only [Zd, Zb, or_false] at hp; subst hp; kernel_rfl
 ·intro p hp; simp only [Zd, Zb, or_false] at hp; subst hp; kernel_rfl
theorem itm_to (s y : ByteArray) (at' to : Int) (g : Nat) (hs : s.size <= 1073741824) (h0 : 0 <= at') (h1 : at' < s.size) (hb : BYi s at' = 46) (hto : wrdA s (at' + 1) = to) (hto2 : at' + 1 <= to /\ to <= s.size) (hy : ByteArray.extract s (Int.toNat (at' + 1)) (Int.toNat to) = y) (hn : namA y = true) (hyz : y.size <= 1073741824) :
  CallTo Tryz.prog 243 [.ptr 1000 0, jS s, jI at'] [atB 1000 g []] [(kCl, g)] (.av (.tup [vI to, vI 0])) [atB 1000 (g + 1) [y]] [(kCl, g + 1)] := by
 have hc := acl_to y g
 have e1 : (BYi s at' == 35) = false := by rw [hb]; rfl
 have e2 : cond (BYi s at' == 35) true (BYi s at' == 46) = true := by rw [hb]; rfl
 have e3 : (BYi s at' == 46) = true := by rw [hb]; rfl
 have w1 := wrE (at' + 1) (at' + 1) (by omega)
 have k1 := wrdA_to s (at' + 1) hs (by omega) (by omega); rw [hto] at k1
 have k2 := Vn7 y hyz
 have hsl : 0 <= at' + 1 /\ at' + 1 <= to /\ to <= ((ByteArray.size s : Nat) : Int) := ⟨by omega, hto2.1, hto2.2⟩
 refine BEGb (fun _ : Unit => .av (.tup [vI to, vI 0])) () Tryz.func243 (by kernel_rfl) (by simp [atB]) (by simp [kCl]) (by simp [OkSV, SV.keys, atB]) (okAt 1000 [] g) (by simp [OkSV, SV.keys]) (okAt 1000 [y] (g + 1)) rfl rfl ?_ (by simp [atB]); subst hy; refine gO (tn 4 (kp (ib s at' ⟨h0, h1⟩) (tn 4 (kb e1 (tn 1 (kb e1 (tn 1 (kb e1 (kb e3 (tn 1 (kn w1 (tn 3 (kc k1 (tn 4 (kp hsl (tn 2 (kc k2 (tn 1 (kb (b := !namA (ByteArray.extract s (Int.toNat (at' + 1)) (Int.toNat to))) (d := false) (by rw [hn]; rfl) (tn 3 (kb e1 (tn 2 (kb e3 (tn 3 (kg hc (show g = g /\ True from ⟨rfl, trivial⟩) (tn 2 z)))))))))))))))))))))))))) ?_; refine ENb (by kernel_rfl) ?_ ?_
 ·intro p hp; simp only [Zd, Zb, or_false] at hp; subst hp; kernel_rfl
 ·intro p hp; simp only [Zd, Zb, or_false] at hp; subst hp; kernel_rfl
def paB (s : ByteArray) (a : Int) (g : Nat) (cs : List ByteArray) : List (Nat × ABox) := [(1002, .cells 3 [jI a]), atB 1000 g cs, (1001, .cells 9 [jS s])]
theorem okPa (s : ByteArray) (a : Int) (cs : List ByteArray) (g : Nat) : ∀ p ∈ paB s a g cs, ∀ s ∈ p.2.svs, OkSV [1002, 1000, 1001] [(kCl, g)] s := by
 intro p hp s hs; simp only [paB, Zd, Zb, or_false] at hp; rcases hp with rfl | rfl | rfl
 ·simp only [ABox.svs, Zd, Zb, or_false] at hs; subst hs; simp [OkSV, SV.keys]
 ·simp only [atB, ABox.svs, Zd, Zb, or_false] at hs; rcases hs with rfl | rfl | rfl
  ·simp [OkSV, SV.keys]
  ·simp [OkSV, kCl, List.lookup]
  ·simp [OkSV, SV.keys]
 ·simp only [ABox.svs, Zd, Zb, or_false] at hs; subst hs; simp [OkSV, SV.keys]
theorem itc_to (s y : ByteArray) (at' to : Int) (g : Nat) (hs : s.size <= 1073741824) (h0 : 0 <= at') (h1 : at' < s.size) (hb : BYi s at' = 46) (hto : wrdA s (at' + 1) = to) (hto2 : at' + 1 <= to /\ to <= s.size) (hy : ByteArray.extract s (Int.toNat (at' + 1)) (Int.toNat to) = y) (hn : namA y = true) (hyz : y.size <= 1073741824) :
  CallTo Tryz.prog 242 [.ptr 1000 0, .ptr 1001 0, .ptr 1002 0] (paB s at' g []) [(kCl, g)] (jI 0) (paB s to (g + 1) [y]) [(kCl, g + 1)] := by
 have hi := itm_to s y at' to g hs h0 h1 hb hto hto2 hy hn hyz; refine BEGb (fun _ : Unit => jI 0) () Tryz.func242 (by kernel_rfl) (by simp [paB, atB]) (by simp [kCl]) (by simp [OkSV, SV.keys, paB, atB]) (okPa s at' [] g) (by simp [OkSV, SV.keys]) (okPa s to [y] (g + 1)) rfl rfl ?_ (by simp [paB, atB]); refine gO (tn 3 (kg hi (show g = g /\ True from ⟨rfl, trivial⟩) (tn 9 z))) ?_; refine ENb (by kernel_rfl) ?_ ?_
 ·intro p hp; simp only [paB, Zd, Zb, or_false] at hp; rcases hp with rfl | rfl | rfl <;> kernel_rfl
 ·intro p hp; simp only [Zd, Zb, or_false] at hp; subst hp; kernel_rfl
def spB (s : ByteArray) (a : Int) : List (Nat × ABox) := [(1002, .cells 3 [jI a]), (1001, .cells 9 [jS s])]
theorem spc_to (s : ByteArray) (a : Int) (h0 : 0 <= a) (h1 : a < s.size) (hb : BYi s a ≠ 32) : CallTo Tryz.prog 241 [.ptr 1002 0, .ptr 1001 0] (spB s a) [] (jB false) (spB s a) [] := by
 have hd : decide (a < ((ByteArray.size s : Nat) : Int)) = true := decide_eq_true (by omega)
 have hn : (BYi s a == 32) = false := beq_false_of_ne hb
 have h : CallTo Tryz.prog 241 [.ptr 1002 0, .ptr 1001 0] (spB s a) [] (jB (decide (a > a))) (spB s a) [] := by
  refine bGs Tryz.func241 ?_; refine gO (tn 3 z) ?_; refine uN (sx 20 [(0, .ptr 1002 0), (1, .ptr 1001 0), (3, jI a)] (spB s a) []) 1 ?_; refine gO (tn 5 (kb hd (tn 1 (kb hd (tn 1 (kb hd (kp (ib s a ⟨h0, h1⟩) (kb hd (tn 1 (kb hd (kb hn z))))))))))) ?_; refine uO (tn 4 z) ?_; exact eNs
 rwa [show decide (a > a) = false from decide_eq_false (by omega)] at h
def paL (s : ByteArray) (a : Int) (g : Nat) (cs : List ByteArray) : List (Nat × ABox) := [(8, .cells 3 [jI a]), atB 7 g cs, (4, .cells 39 [jS e0, .nil, .nil]), (2, .cells 9 [jS s])]
def paS (s : ByteArray) (a : Int) (g : Nat) (cs : List ByteArray) (b : Bool) : St := sx 57 [(2, .ptr 2 0), (4, .ptr 4 0), (7, .ptr 7 0), (8, .ptr 8 0), (9, .fn 241 [] [.ptr 8 0, .ptr 2 0]), (10, .fn 242 [] [.ptr 7 0, .ptr 2 0, .ptr 8 0]), (11, jB b)] (paL s a g cs) [(kCl, g)]
theorem par1_to (s y : ByteArray) (i to : Int) (hs : s.size <= 1073741824) (h0 : 0 <= i) (hb0 : BYi s i = 123) (hb : BYi s (i + 1) = 46) (hto : wrdA s (i + 2) = to) (hto2 : i + 2 <= to /\ to < s.size) (hbt : BYi s to = 125) (hy : ByteArray.extract s (Int.toNat (i + 2)) (Int.toNat to) = y) (hn : namA y = true) (hyz : y.size <= 1073741824) :
  CallTo Tryz.prog 195 [jS s, jI i] [] [] (.av (.tup [Vps ⟨e0, [y], []⟩, vI (to + 1), vI 0])) [] [] := by
 have i2 : i + 1 + 1 = i + 2 := by omega
 have k1 : CallTo Tryz.prog 241 [.ptr 8 0, .ptr 2 0] [(8, .cells 3 [jI (i + 1)]), (2, .cells 9 [jS s])] [] (jB false) [(8, .cells 3 [jI (i + 1)]), (2, .cells 9 [jS s])] [] := Vc6 (by kernel_rfl) (Va3 (Vab (8, 0) (1002, 0) rfl) (Va3 (Vab (2, 0) (1001, 0) rfl) (spc_to s (i + 1) (by omega) (by omega) (by rw [hb]; decide))))
 have k3 : CallTo Tryz.prog 241 [.ptr 8 0, .ptr 2 0] [(8, .cells 3 [jI to]), (2, .cells 9 [jS s])] [] (jB false) [(8, .cells 3 [jI to]), (2, .cells 9 [jS s])] [] := Vc6 (by kernel_rfl) (Va3 (Vab (8, 0) (1002, 0) rfl) (Va3 (Vab (2, 0) (1001, 0) rfl) (spc_to s to (by omega) (by omega) (by rw [hbt]; decide))))
 have k2 : CallTo Tryz.prog 242 [.ptr 7 0, .ptr 2 0, .ptr 8 0] [(8, .cells 3 [jI (i + 1)]), atB 7 0 [], (2, .cells 9 [jS s])] [(kCl, 0)] (jI 0) [(8, .cells 3 [jI to]), atB 7 (0 + 1) [y], (2, .cells 9 [jS s])] [(kCl, 0 + 1)] := Vc6 (by kernel_rfl) (Va3 (Vab (7, 0) (1000, 0) rfl) (Va3 (Vab (8, 0) (1002, 0) rfl) (Va3 (Vab (2, 0) (1001, 0) rfl) (itc_to s y (i + 1) to 0 hs (by omega) (by omega) hb (by rw [i2]; exact hto) (by omega) (by rw [i2]; exact hy) hn hyz))))
 have d1 : decide (i < 0) = false := decide_eq_false (by omega)
 have d2 : decide (i >= ((ByteArray.size s : Nat) : Int)) = false := decide_eq_false (by omega)
 have d3 : (BYi s i != 123) = false := by rw [hb0]; rfl
 have d4 : decide (i + 1 >= ((ByteArray.size s : Nat) : Int)) = false := decide_eq_false (by omega)
 have d5 : (BYi s (i + 1) == 125) = false := by rw [hb]; rfl
 have d6 : decide (to >= ((ByteArray.size s : Nat) : Int)) = false := decide_eq_false (by omega)
 have d7 : (BYi s to == 125) = true := by rw [hbt]; rfl
 have w1 := wrE (i + 1) (i + 1) (by omega)
 have w2 := wrE (to + 1) (to + 1) (by omega); refine bG Tryz.func195 ?_; refine gO (tn 7 (kb d1 (tn 1 (kb d1 (tn 1 (kb d1 (tn 1 (kb d1 (tn 1 (kb d1 (tn 1 (kb d2 (tn 1 (kb d2 (tn 1 (kb d2 (kp (ib s i ⟨h0, by omega⟩) (kb d2 (tn 1 (kb d2 (kb d3 (tn 2 (kn w1 (tn 6 (kq 7 z))))))))))))))))))))))))) ?_; refine RT [(7, 1, .own kCl 0 1 (([] : List ByteArray).map Vam))] (ac (show ([] : List AV) = [] /\ 0 < 10 /\ (0 : Nat) = 0 from ⟨rfl, by decide, rfl⟩) an) (by kernel_rfl) ?_; refine gO (tn 1 (kg k1 trivial (tn 1 z))) ?_; refine uN (paS s (i + 1) 0 [] true) 2 ?_; refine gO (tn 4 (kb d4 (tn 2 (kp (ib s (i + 1) ⟨by omega, by omega⟩) (tn 1 (kb d5 (tn 2 (kb (b := !true) (d := false) rfl (tn 1 (kg k2 (show (0 : Nat) = 0 /\ True from ⟨rfl, trivial⟩) (tn 3 (kb (b := ((0 : Int) != 0)) (d := false) rfl (tn 1 (kg k3 trivial (tn 1 z))))))))))))))) ?_; refine uA (paS s to 1 [y] false) ?_; refine gO (tn 4 (kb d6 (tn 2 (kp (ib s to ⟨by omega, by omega⟩) (tn 1 (kb d7 z)))))) ?_; refine DR3 (tn 3 (kn w2 (kp w2 (tn 3 z)))) (by kernel_rfl) (by kernel_rfl) (by kernel_rfl) ?_; refine uO z ?_; exact eN
def eEMP : ByteArray := ⟨#[123, 61, 101, 109, 112, 104, 125]⟩
def eSTG : ByteArray := ⟨#[123, 61, 115, 116, 114, 111, 110, 103, 125]⟩
def eSTK : ByteArray := ⟨#[123, 61, 115, 116, 114, 105, 107, 101, 125]⟩
def ephR (t : ByteArray) (i : Int) : ByteArray := ByteArray.extract t (Int.toNat i) (ByteArray.size t)
def ephI (t : ByteArray) (i : Int) : Int × Int := cond (hpxB (ephR t i) eEMP) (6, i + 7) (cond (hpxB (ephR t i) eSTG) (7, i + 9) (cond (hpxB (ephR t i) eSTK) (8, i + 9) (0, 0)))
def ephS (t : ByteArray) (i : Int) (k : Int) : St := sx 29 [(0, jS t), (1, jI i), (9, .av (.agg [vI 6, vI 7, vI 8])), (10, jI k)] [] []
theorem eph_to (t : ByteArray) (i : Int) (ht : t.size <= 1073741824) (hi : 0 <= i /\ i <= t.size) : CallTo Tryz.prog 196 [jS t, jI i] [] [] (.av (.tup [vI (ephI t i).1, vI (ephI t i).2])) [] [] := by
 have hs : 0 <= i /\ i <= ((ByteArray.size t : Nat) : Int) /\ ((ByteArray.size t : Nat) : Int) <= ((ByteArray.size t : Nat) : Int) := ⟨hi.1, hi.2, Int.le_refl _⟩
 refine BEG (fun r : Int × Int => .av (.tup [vI r.1, vI r.2])) (ephI t i) Tryz.func196 (by kernel_rfl) ?_; refine UF (ephI.eq_1 ..) ?_; refine gO (tn 4 z) ?_; refine UN (ephS t i 0) 4 (by kernel_rfl) (WK (by kernel_rfl)) ?_; refine gO (tn 1 (kb tt (kp (show 0 <= (0 : Int) /\ (0 : Int) < (3 : Nat) /\ (0 : Int).toNat * 1 + 1 <= ([vI 6, vI 7, vI 8] : List AV).length /\ 0 < 1 by decide) (tn 5 (kb ff (tn 2 (kb ff (tn 2 (kp hs (tn 1 (kc (Vhj (ephR t i) eEMP) z))))))))))) ?_; refine CS (fun h0 => ?_) (fun h0 => ?_)
 ·refine gO (kb h0 (tn 4 (kn (wrE (i + 7) (i + 7) (by omega)) (tn 2 z)))) ?_; refine UO z (by kernel_rfl) ?_; exact EN (by kernel_rfl)
 ·refine gO (kb h0 (kn (wrE ((0 : Int) + 1) 1 (by omega)) (tn 1 z))) ?_; refine UA (ephS t i 1) (by kernel_rfl) (WK (by kernel_rfl)) ?_; refine gO (tn 1 (kb tt (kp (show 0 <= (1 : Int) /\ (1 : Int) < (3 : Nat) /\ (1 : Int).toNat * 1 + 1 <= ([vI 6, vI 7, vI 8] : List AV).length /\ 0 < 1 by decide) (tn 5 (kb tt (tn 3 (kp hs (tn 1 (kc (Vhj (ephR t i) eSTG) z))))))))) ?_; refine CS (fun h1 => ?_) (fun h1 => ?_)
  ·refine gO (kb h1 (tn 4 (kn (wrE (i + 9) (i + 9) (by omega)) (tn 2 z)))) ?_; refine UO z (by kernel_rfl) ?_; exact EN (by kernel_rfl)
  ·refine gO (kb h1 (kn (wrE ((1 : Int) + 1) 2 (by omega)) (tn 1 z))) ?_; refine UA (ephS t i 2) (by kernel_rfl) (WK (by kernel_rfl)) ?_; refine gO (tn 1 (kb tt (kp (show 0 <= (2 : Int) /\ (2 : Int) < (3 : Nat) /\ (2 : Int).toNat * 1 + 1 <= ([vI 6, vI 7, vI 8] : List AV).length /\ 0 < 1 by decide) (tn 5 (kb ff (tn 2 (kb tt (tn 3 (kp hs (tn 1 (kc (Vhj (ephR t i) eSTK) z))))))))))) ?_; refine CS (fun h2 => ?_) (fun h2 => ?_)
   ·refine gO (kb h2 (tn 4 (kn (wrE (i + 9) (i + 9) (by omega)) (tn 2 z)))) ?_; refine UO z (by kernel_rfl) ?_; exact EN (by kernel_rfl)
   ·refine gO (kb h2 (kn (wrE ((2 : Int) + 1) 3 (by omega)) (tn 1 z))) ?_; refine UA (ephS t i 3) (by kernel_rfl) (WK (by kernel_rfl)) ?_; refine gO (tn 1 (kb ff z)) ?_; refine UO (tn 2 z) (by kernel_rfl) ?_; exact EN (by kernel_rfl)
def bkB (s : ByteArray) (els : List DElem) (brs : List Int) (refs : Int) : List (Nat × ABox) := [(1000, .cells 52 [jS s, .vs 1001 els.length, .vs 1003 brs.length, jI refs]), (1001, elB els), (1003, brB brs)]
def mkI (k : Int) (t d ti : ByteArray) (a : DAttr) (ks : List DInline) : DInline := DInline.mk k t d ti a [] [] ks
def at0 : DAttr := ⟨e0, [], []⟩
theorem ren_bk {s : ByteArray} {els : List DElem} {brs : List Int} {refs : Int} {b : DElem} {o : Nat} {i : Int} {r : DInline × Int × Bool}
  (h : CallTo Tryz.prog 145 [.ptr 1000 0, .av (cElem b), .vw 1001 21 o (els.length - o), jI i] (bkB s els brs refs) [] (.av (.tup [Vaa r.1, vI r.2.1, vB r.2.2])) (kept (bkB s els brs refs)) []) : Vhp s els brs refs b o i r :=
 Vc6 (by kernel_rfl) (Va3 (Vab (1001, 0) (2001, 0) rfl) (Va3 (Vab (1003, 0) (2002, 0) rfl) h))
theorem brkL_to (s : ByteArray) (els : List DElem) (brs : List Int) (refs : Int) (b : DElem) (o : Nat) (i : Int) (d t l : ByteArray) (to : Int) (hT : CallTo Tryz.prog 194 [jS s, jI i] [] [] (tupT d t l to true) [] []) (hi : b.fimage = false) (hr : refs <= b.freferences)
  (he : els.length <= 536870912) (ho : o <= els.length) (hN : NsOk els o (els.length - o)) : Vhp s els brs refs b o i (mkI 9 l d t at0 (nstM els o (els.length - o)), to, true) := by
 refine ren_bk ?_
 have hn := nes_to els o (els.length - o) (by omega) he hN
 have hb : (!b.fimage) = true := by rw [hi]; rfl
 have hg : decide (refs > b.freferences) = false := decide_eq_false (by omega); refine BEGv (fun _ : Unit => .av (.tup [Vaa (mkI 9 l d t at0 (nstM els o (els.length - o))), vI to, vB true])) (fun _ => bkB s els brs refs) (fun _ => []) () Tryz.func145 (by kernel_rfl) ?_; refine gO (tn 9 (kc hT (tn 12 (kb (b := true) (d := true) rfl (tn 9 (kb hb z)))))) ?_; refine DR3 (tn 7 z) (by kernel_rfl) (by kernel_rfl) (by kernel_rfl) ?_; refine gO (kb hg (tn 1 (kg hn trivial (tn 7 z)))) ?_; exact ENk (by kernel_rfl) (by kernel_rfl) (by kernel_rfl)
theorem brkE_to (s : ByteArray) (els : List DElem) (brs : List Int) (refs : Int) (b : DElem) (o : Nat) (i : Int) (k e : Int) (hT : CallTo Tryz.prog 194 [jS s, jI i] [] [] (tupT e0 e0 e0 0 false) [] []) (hi : b.fimage = false) (hE : CallTo Tryz.prog 196 [jS s, jI i] [] [] (.av (.tup [vI k, vI e])) [] []) (hk : k ≠ 0)
  (he : els.length <= 536870912) (ho : o <= els.length) (hN : NsOk els o (els.length - o)) (hne : nstM els o (els.length - o) ≠ []) : Vhp s els brs refs b o i (mkI k e0 e0 e0 at0 (nstM els o (els.length - o)), e, true) := by
 have hn := nes_to els o (els.length - o) (by omega) he hN
 have hkk : (k != 0) = true := by rw [bne_iff_ne]; exact hk
 have hlen : decide (((((nstM els o (els.length - o)).map Va1).length : Nat) : Int) > 0) = true := decide_eq_true (by rw [Zf]; have := List.length_pos_iff.2 hne; omega)
 have h : Vhp s els brs refs b o i (mkI k e0 e0 e0 at0 (nstM els o (els.length - o)), e, decide (((((nstM els o (els.length - o)).map Va1).length : Nat) : Int) > 0)) := by
  refine ren_bk ?_; refine BEGv (fun _ : Unit => .av (.tup [Vaa (mkI k e0 e0 e0 at0 (nstM els o (els.length - o))), vI e, vB (decide (((((nstM els o (els.length - o)).map Va1).length : Nat) : Int) > 0))])) (fun _ => bkB s els brs refs) (fun _ => []) () Tryz.func145 (by kernel_rfl) ?_; refine gO (tn 9 (kc hT (tn 12 (kb (b := false) (d := false) rfl (tn 2 (kb hi (tn 5 (kc hE (tn 7 (kb hkk (tn 1 (kg hn trivial (tn 11 z))))))))))))) ?_; exact ENk (by kernel_rfl) (by kernel_rfl) (by kernel_rfl)
 rwa [hlen] at h
theorem brkS_to (s : ByteArray) (els : List DElem) (brs : List Int) (refs : Int) (b : DElem) (o : Nat) (i : Int) (a : DAttr) (e e2 : Int) (hT : CallTo Tryz.prog 194 [jS s, jI i] [] [] (tupT e0 e0 e0 0 false) [] []) (hi : b.fimage = false) (hE : CallTo Tryz.prog 196 [jS s, jI i] [] [] (.av (.tup [vI 0, vI e2])) [] [])
  (hA : CallTo Tryz.prog 195 [jS s, jI i] [] [] (.av (.tup [Vps a, vI e, vI 0])) [] []) (hEm : CallTo Tryz.prog 118 [.av (Vps a)] [] [] (jB false) [] [])
  (he : els.length <= 536870912) (ho : o <= els.length) (hN : NsOk els o (els.length - o)) : Vhp s els brs refs b o i (mkI 11 e0 e0 e0 a (nstM els o (els.length - o)), e, true) := by
 refine ren_bk ?_
 have hn := nes_to els o (els.length - o) (by omega) he hN; refine BEGv (fun _ : Unit => .av (.tup [Vaa (mkI 11 e0 e0 e0 a (nstM els o (els.length - o))), vI e, vB true])) (fun _ => bkB s els brs refs) (fun _ => []) () Tryz.func145 (by kernel_rfl) ?_; refine gO (tn 9 (kc hT (tn 12 (kb (b := false) (d := false) rfl (tn 2 (kb hi (tn 5 (kc hE (tn 7 (kb (b := ((0 : Int) != 0)) (d := false) rfl (tn 5 (kc hA (tn 11 (kb (b := ((0 : Int) != 0)) (d := false) rfl (tn 1 (kb (b := ((0 : Int) != 0)) (d := false) rfl (kc hEm (kb (b := ((0 : Int) != 0)) (d := false) rfl (kb (b := false) (d := false) rfl z))))))))))))))))))) ?_; refine DR3 (tn 2 (ko (cO hn) (kp hn (tn 7 z)))) (by kernel_rfl) (by kernel_rfl) (by kernel_rfl) ?_; exact ENk (by kernel_rfl) (by kernel_rfl) (by kernel_rfl)
end Go.Proofs.YthbpjmogdonlkaaGreatDoor
set_option maxRecDepth 100000
namespace Go.Proofs.YthbpjmogdonlkaaGreatDoor
open Go Go.Eng
theorem skpL_at {s : ByteArray} {i : Nat} {b : UInt8} {u : List UInt8} (h : At s i (b :: u)) (h1 : b.toNat ≠ 32) (h2 : b.toNat ≠ 10) : skpL s ((i : Nat) : Int) = ((i : Nat) : Int) := by
 have hs := h.size
 have hb := h.byt; simp only [Zc] at hs
 have hw : IntKind.i64.wrap ((b.toNat : Nat) : Int) = ((b.toNat : Nat) : Int) := wrE _ _ (by have := b.toNat_lt; omega); unfold skpL skpL_L0; rw [show decide (((i : Nat) : Int) < ((ByteArray.size s : Nat) : Int)) = true from decide_eq_true (by omega), Za, hb, hw]; unfold spcC; rw [beq_false_of_ne (show ((b.toNat : Nat) : Int) ≠ 32 by omega), beq_false_of_ne (show ((b.toNat : Nat) : Int) ≠ 10 by omega)]; rfl
theorem skpS_at {s : ByteArray} {i : Nat} {b : UInt8} {u : List UInt8} (h : At s i (32 :: b :: u)) (h1 : b.toNat ≠ 32) : skpS s ((i : Nat) : Int) = ((i + 1 : Nat) : Int) := by
 have hs := h.size
 have hb := h.byt
 have hb2 := h.tail.byt; simp only [Zc] at hs; obtain ⟨n, hn⟩ : ∃ n, (s.size - Int.toNat ((i : Nat) : Int)) + 1 = n + 2 := ⟨s.size - i - 1, by rw [Za]; omega⟩
 unfold skpS; rw [hn]; unfold skpS_L0; rw [show decide (((i : Nat) : Int) < ((ByteArray.size s : Nat) : Int)) = true from decide_eq_true (by omega), Za, hb]; unfold skpS_L0; rw [show ((i : Nat) : Int) + 1 = ((i + 1 : Nat) : Int) by omega, show decide (((i + 1 : Nat) : Int) < ((ByteArray.size s : Nat) : Int)) = true from decide_eq_true (by omega), Za, hb2, beq_false_of_ne (show ((b.toNat : Nat) : Int) ≠ 32 by omega)]; rfl
theorem escL_no {s : ByteArray} {i : Nat} {b : UInt8} {u : List UInt8} (h : At s i (b :: u)) (h1 : b.toNat ≠ 92) : escL s ((i : Nat) : Int) = false := by
 have hb := h.byt; unfold escL; rw [Za, hb, beq_false_of_ne (show ((b.toNat : Nat) : Int) ≠ 92 by omega)]; rfl
theorem push_list (l : List UInt8) (b : UInt8) : ByteArray.push ⟨l.toArray⟩ b = ⟨(l ++ [b]).toArray⟩ := by
 apply ByteArray.ext; apply Z7.1; simp [ByteArray.push]
theorem u8_nat (b : UInt8) : u8 ((b.toNat : Nat) : Int) = b := by
 unfold u8; simp
theorem uneL (s : ByteArray) : ∀ (w : List UInt8) (l : List UInt8) (v n : Nat), Lets w -> At s v w -> v + w.length = s.size -> w.length < n -> uneS_L0 s n ((v : Nat) : Int) ⟨l.toArray⟩ = ⟨(l ++ w).toArray⟩
 | [], l, v, n, _, ha, he, hn => by
  obtain ⟨n, rfl⟩ : ∃ k, n = k + 1 := ⟨n - 1, by simp at hn; omega⟩
  simp only [Zp] at he; unfold uneS_L0; rw [show decide (((v : Nat) : Int) < ((ByteArray.size s : Nat) : Int)) = false from decide_eq_false (by omega), List.append_nil]; rfl
 | b :: w, l, v, n, hL, ha, he, hn => by
  obtain ⟨n, rfl⟩ : ∃ k, n = k + 1 := ⟨n - 1, by simp at hn; omega⟩
  have hb := ha.byt
  have hLb := hL b (by simp)
  have hes := escL_no ha (by have := hLb.2; have := hLb.1; omega); simp only [Zc] at he hn
  have ih := uneL s w (l ++ [b]) (v + 1) n (fun x hx => hL x (by simp [hx])) ha.tail (by omega) (by omega); unfold uneS_L0; rw [show decide (((v : Nat) : Int) < ((ByteArray.size s : Nat) : Int)) = true from decide_eq_true (by omega), hes]; simp only [cond_true, cond_false]; rw [Za, hb, u8_nat, push_list, show ((v : Nat) : Int) + 1 = ((v + 1 : Nat) : Int) by omega, ih]; simp
theorem une_let {w : List UInt8} (hL : Lets w) : uneS ⟨w.toArray⟩ = ⟨w.toArray⟩ := by
 have ha : At ⟨w.toArray⟩ 0 w := by simpa using At.all ⟨w.toArray⟩
 have hz : (Zs w.toArray).size = w.length := rfl; exact uneL ⟨w.toArray⟩ w [] 0 _ hL ha (by simp [hz]) (by simp [hz])
theorem dstL (s : ByteArray) (i : Int) (y : ByteArray) : ∀ (w : List UInt8) (v n : Nat), Lets w -> At s v (w ++ [41]) -> w.length < n -> uneS (ByteArray.extract s (Int.toNat i) (v + w.length)) = y -> i ≠ ((v + w.length : Nat) : Int) -> dstS_L0 s i n 0 ((v : Nat) : Int) = (y, ((v + w.length : Nat) : Int), true)
 | [], v, n, _, ha, hn, hy, hi => by
  obtain ⟨n, rfl⟩ : ∃ k, n = k + 1 := ⟨n - 1, by simp at hn; omega⟩
  have hs := ha.size
  have hb := ha.byt; simp only [Z9, Z3, Zp, Nat.add_zero] at hs hy hi; unfold dstS_L0; rw [show decide (((v : Nat) : Int) < ((ByteArray.size s : Nat) : Int)) = true from decide_eq_true (by omega), Za, hb, beq_false_of_ne (Ne.symm hi), hy]; rfl
 | b :: w, v, n, hL, ha, hn, hy, hi => by
  obtain ⟨n, rfl⟩ : ∃ k, n = k + 1 := ⟨n - 1, by simp at hn; omega⟩
  have hs := ha.size
  have hb := ha.byt
  have hLb := hL b (by simp)
  have q1 := hLb.1
  have q2 := hLb.2
  have hes := escL_no ha (by omega); simp only [Zq, Zc] at hs hn hy hi
  have ih := dstL s i y w (v + 1) n (fun x hx => hL x (by simp [hx])) ha.tail (by omega) (by rw [<- hy]; congr 2; omega) (fun e => hi (by omega)); unfold dstS_L0; rw [show decide (((v : Nat) : Int) < ((ByteArray.size s : Nat) : Int)) = true from decide_eq_true (by omega), hes]; simp only [cond_true, cond_false]; rw [Za, hb, beq_false_of_ne (show ((b.toNat : Nat) : Int) ≠ 32 by omega), beq_false_of_ne (show ((b.toNat : Nat) : Int) ≠ 10 by omega), beq_false_of_ne (show ((b.toNat : Nat) : Int) ≠ 41 by omega), beq_false_of_ne (show ((b.toNat : Nat) : Int) ≠ 40 by omega)]; simp only [cond_true, cond_false]; rw [show ((v : Nat) : Int) + 1 = ((v + 1 : Nat) : Int) by omega, ih]; simp only [Zc]; rw [show v + 1 + w.length = v + (w.length + 1) by omega]; rfl
theorem dst_at {s : ByteArray} {i : Nat} {w : List UInt8} (hL : Lets w) (h0 : 0 < w.length) (ha : At s i (w ++ [41])) : dstS s ((i : Nat) : Int) = (⟨w.toArray⟩, ((i + w.length : Nat) : Int), true) := by
 have hs := ha.size; obtain ⟨b, u, rfl⟩ : ∃ b u, w = b :: u := Zj h0
 have hb := ha.byt
 have hLb := hL b (by simp); simp only [Zg, Z3] at hs
 have e := dstL s ((i : Nat) : Int) ⟨(b :: u).toArray⟩ (b :: u) i ((s.size - Int.toNat ((i : Nat) : Int)) + 1) hL ha (by rw [Za]; omega) (by rw [Za, ha.left.ext, une_let hL]) (by simp only [Zc]; omega); unfold dstS; rw [show decide (((i : Nat) : Int) < 0) = false from decide_eq_false (by omega), show decide (((i : Nat) : Int) >= ((ByteArray.size s : Nat) : Int)) = false from decide_eq_false (by omega), e, Za, hb, beq_false_of_ne (show ((b.toNat : Nat) : Int) ≠ 60 by have := hLb.1; omega)]; rfl
theorem idx_at {c : UInt8} : ∀ (w z : List UInt8), (∀ b ∈ w, b ≠ c) -> Lib.indexByte (w ++ c :: z) c = ((w.length : Nat) : Int)
 | [], z, _ => by simp [Lib.indexByte]
 | b :: w, z, h => by
  have h1 := h b (by simp)
  have ih := idx_at (c := c) w z (fun x hx => h x (by simp [hx])); simp only [Zq, Lib.indexByte, ih, Zc]
  have e : (b == c) = false := by simpa using h1
  have e2 : (((w.length : Nat) : Int) == -1) = false := beq_false_of_ne (by omega); rw [e, e2]; simp
theorem cut_at {s : ByteArray} {i : Nat} {w : List UInt8} (hL : Lets w) (ha : At s i (w ++ [93])) : (cutM (s.extract i s.size)).1 = ⟨w.toArray⟩ /\ (cutM (s.extract i s.size)).2.2 = true := by
  obtain ⟨z, hz, _⟩ := ha.rest
  have hi : idxB (s.extract i s.size) 93 = ((w.length : Nat) : Int) := by
    unfold idxB; rw [hz, Zr]
    exact idx_at w z (fun b hb e => by have := (hL b hb).1; have h3 := (hL b hb).2; have h2 : b.toNat = 93 := by rw [e]; rfl
                                       omega)
  unfold cutM ctlM; rw [hi, show decide (((w.length : Nat) : Int) >= 0) = true from decide_eq_true (by omega)]; refine ⟨?_, rfl⟩
  show ByteArray.extract (s.extract i s.size) 0 (Int.toNat ((w.length : Nat) : Int)) = _; apply ByteArray.ext; apply Z7.1; rw [Vnh, hz, Za]; simp
theorem hpx_at {s : ByteArray} {i : Nat} {u : List UInt8} {p : ByteArray} (ha : At s i u) (hp : p.data.toList = u) : hpxB (s.extract i s.size) p = true := by
 obtain ⟨z, hz, _⟩ := ha.rest; unfold hpxB Lib.hasPrefix; rw [hz, hp, List.isPrefixOf_iff_prefix]; exact List.prefix_append _ _
theorem hpx_no {s : ByteArray} {i : Nat} {a b : UInt8} {u : List UInt8} {p : ByteArray} {c d : UInt8} {q : List UInt8} (ha : At s i (a :: b :: u)) (hp : p.data.toList = c :: d :: q) (h : b ≠ d) : hpxB (s.extract i s.size) p = false := by
 obtain ⟨z, hz, _⟩ := ha.rest; unfold hpxB Lib.hasPrefix; rw [hz, hp]; cases hh : List.isPrefixOf (c :: d :: q) (a :: b :: u ++ z) with
 | false => rfl
 | true =>
  rw [List.isPrefixOf_iff_prefix] at hh; obtain ⟨t, ht⟩ := hh; simp only [Zq, List.cons.injEq] at ht; exact absurd ht.2.1.symm h
theorem eph_no {s : ByteArray} {i : Nat} {u : List UInt8} (ha : At s i (123 :: 46 :: u)) : ephI s ((i : Nat) : Int) = (0, 0) := by
 unfold ephI ephR; rw [Za, hpx_no ha (p := eEMP) rfl (by decide), hpx_no ha (p := eSTG) rfl (by decide), hpx_no ha (p := eSTK) rfl (by decide)]; rfl
theorem eph_at {s : ByteArray} {i : Nat} (ha : At s i [123, 61, 101, 109, 112, 104, 125]) : ephI s ((i : Nat) : Int) = (6, ((i + 7 : Nat) : Int)) := by
 unfold ephI ephR; rw [Za, hpx_at ha (p := eEMP) rfl]; rfl
theorem trm_id {l : List UInt8} (h1 : ∀ b, l.head? = some b -> b ≠ 32 /\ b ≠ 10) (h2 : ∀ b, l.getLast? = some b -> b ≠ 32 /\ b ≠ 10) : trmB ⟨l.toArray⟩ WSP = ⟨l.toArray⟩ := by
 have hc : ∀ b : UInt8, b ≠ 32 /\ b ≠ 10 -> (WSP.data.toList.contains b) = false := by
  rintro b ⟨q1, q2⟩
  show List.contains [32, 10] b = false; simp [q1, q2]
 unfold trmB Lib.trimS
 have e : (Zs l.toArray).data.toList = l := by simp
 rw [e]
 have er : Lib.trimRightS l WSP.data.toList = l := by
  unfold Lib.trimRightS; cases hr : l.reverse with
  | nil => simpa using hr.symm
  | cons b q =>
   have hb : l.getLast? = some b := by rw [<- List.head?_reverse, hr]; rfl
   rw [List.dropWhile_cons, hc b (h2 b hb)]
   have : l = (b :: q).reverse := by rw [<- hr, List.reverse_reverse]
   rw [this]; simp
 rw [er]; unfold Lib.trimLeftS; cases hl : l with
 | nil => rfl
 | cons b q =>
  rw [List.dropWhile_cons, hc b (h1 b (by rw [hl]; rfl))]; rfl
end Go.Proofs.YthbpjmogdonlkaaGreatDoor
set_option maxRecDepth 100000
namespace Go.Proofs.YthbpjmogdonlkaaGreatDoor
open Go Go.Eng
theorem el_app {α : Type} [Inhabited α] (pre c : List α) (v : Nat) : el (pre ++ c) (pre.length + v) = el c v := by
 unfold el; rw [List.getElem?_append_right (by omega), Nat.add_sub_cancel_left]
theorem Vn0 (pre c : List DElem) (m : Nat) : pcsN (pre ++ c) pre.length m = pcsN c 0 m := by
 unfold pcsN; congr 1; funext v; rw [el_app, Zx]
theorem NsOk.pre {c : List DElem} {m : Nat} (h : NsOk c 0 m) (pre : List DElem) : NsOk (pre ++ c) pre.length m := by
 refine ⟨fun v hv => ?_, ?_, ?_⟩
 ·rw [el_app]
  have := h.one v hv; rwa [Zx] at this
 ·rw [Vn0]; exact h.mg
 ·rw [Vn0]; exact h.rs
theorem nstM_pre (pre c : List DElem) (m : Nat) : nstM (pre ++ c) pre.length m = nstM c 0 m := by
 unfold nstM; rw [Vn0]; congr 1; funext x; unfold rst; rw [el_app, Zx]
def rdW (w : List UInt8) : List DElem := w.map (fun b => inE (txI ⟨#[b]⟩))
theorem Vpd {α β : Type} [Inhabited α] [Inhabited β] (f : α -> β) (l : List α) (v : Nat) (h : v < l.length) : el (l.map f) v = f (el l v) := by
 unfold el; rw [Z2, Zk h]; rfl
theorem map_el {α β : Type} [Inhabited α] (f : Nat -> α -> β) (l : List α) : (Z6 l.length).map (fun v => f v (el l v)) = l.mapIdx f := by
 apply List.ext_getElem
 ·simp
 ·intro i h1 h2; simp only [List.getElem_map, List.getElem_range, List.getElem_mapIdx]; simp only [Zf, List.length_range] at h1; congr 1; simp [el, h1]
theorem range_el {α β : Type} [Inhabited α] (f : α -> β) (l : List α) : (Z6 l.length).map (fun v => f (el l v)) = l.map f := by
 rw [map_el (fun _ => f) l]; apply List.ext_getElem
 ·simp
 ·intro i h1 h2; simp
theorem Vjr (w : List UInt8) : Vau (pcsN (rdW w) 0 w.length) = w.map (fun b => txI ⟨#[b]⟩) := by
 have e : pcsN (rdW w) 0 w.length = w.map (fun b => (inE (txI ⟨#[b]⟩)).fpiece) := by
  rw [<- range_el (fun b => (inE (txI ⟨#[b]⟩)).fpiece) w]; unfold pcsN; apply List.map_congr_left; intro v hv; rw [List.mem_range] at hv; rw [Zx]; unfold rdW; rw [Vpd _ _ _ hv]; rfl
 unfold Vau; rw [e, List.map_map]
 show List.filter Vnc (w.map (fun b => txI ⟨#[b]⟩)) = _; rw [List.filter_eq_self]; intro x hx; obtain ⟨b, _, rfl⟩ := Zy.1 hx; rfl
theorem cat_W (w : List UInt8) : catT (w.map (fun b => txI ⟨#[b]⟩)) = ⟨w.toArray⟩ := by
 induction w with
 | nil => rfl
 | cons b w ih =>
  simp only [Z8, catT, ih]; apply ByteArray.ext; apply Z7.1; simp [txI]
theorem mgL_W (w : List UInt8) (h0 : 0 < w.length) : mgL (w.map (fun b => txI ⟨#[b]⟩)) = [txI ⟨w.toArray⟩] := by
 obtain ⟨b, u, rfl⟩ : ∃ b u, w = b :: u := Zj h0
 have h := mg_run [] (fun _ _ h => by cases h) (u.map (fun b => txI ⟨#[b]⟩)) (txI ⟨#[b]⟩) rfl (fun y hy => by
  obtain ⟨c, _, rfl⟩ := Zy.1 hy; rfl)
 rw [List.append_nil] at h; rw [Z8, h]
 have e : (txI ⟨#[b]⟩).fText ++ catT (u.map (fun b => txI ⟨#[b]⟩)) = catT ((b :: u).map (fun b => txI ⟨#[b]⟩)) := rfl; rw [e, cat_W]; rfl
theorem nst_W (w : List UInt8) (h0 : 0 < w.length) (h1 : w.length <= 1048576) : NsOk (rdW w) 0 w.length /\ nstM (rdW w) 0 w.length = [txI ⟨w.toArray⟩] := by
 refine ⟨⟨fun v hv => ?_, ⟨?_, ?_, ?_⟩, ?_⟩, ?_⟩
 ·rw [Zx]; unfold rdW; rw [Vpd _ _ _ hv]; exact ⟨rfl, rfl, fun h => absurd rfl h⟩
 ·rw [Vjr, Zf]; omega
 ·rw [Vjr, cat_W]
  show w.length <= _; omega
 ·rw [Vjr]; intro x hx; obtain ⟨b, _, rfl⟩ := Zy.1 hx; exact ⟨rfl, by show Vo2 ⟨⟨#[]⟩, [], []⟩ <= 1073741824; decide, Nat.zero_le _, Nat.zero_le _, fun _ => by show 0 < (1 : Nat); decide⟩
 ·rw [Vjr, mgL_W w h0]; intro x hx; rw [List.mem_singleton] at hx; subst hx; exact .inr ⟨(show (1 : Int) ≠ -1 by decide), rfl⟩
 ·unfold nstM; rw [Vjr, mgL_W w h0]; rfl
theorem rsI_ph (k : Nat) (h : k < 100) : rsI (phI k) = k := by
 unfold rsI phI itoa; simp only [(Vkh k h).1]; rfl
theorem keeps_K (xs : List DInline) (hx : ∀ x ∈ xs, x.fKids ≠ []) : Vau (pcsN (xs.map inE) 0 xs.length) = (Z6 xs.length).map phI := by
 have e : pcsN (xs.map inE) 0 xs.length = (Z6 xs.length).map (fun v => { (inE (el xs v)).fpiece with fInline := phI v }) := by
  unfold pcsN; apply List.map_congr_left; intro v hv; rw [List.mem_range] at hv; rw [Zx, Vpd _ _ _ hv]; unfold pcE; rw [if_neg]; intro h
  have := hx _ (Vf2 hv); exact this (List.length_eq_zero_iff.1 h)
 unfold Vau; rw [e, List.map_map]
 show List.filter Vnc ((Z6 xs.length).map phI) = _; rw [List.filter_eq_self]; intro x hx; obtain ⟨b, _, rfl⟩ := Zy.1 hx; rfl
theorem mgL_K (f : Nat -> DInline) (hf : ∀ k, (f k).fKind ≠ 1) (l : List Nat) : mgL (l.map f) = l.map f := by
 induction l with
 | nil => rfl
 | cons k l ih =>
  simp only [Z8, mgL, ih]; exact mgc_n (hf k)
theorem cat_ph (l : List Nat) (hl : ∀ k ∈ l, k < 100) : (catT (l.map phI)).size <= 18 * l.length := by
 induction l with
 | nil => exact Zo _
 | cons k l ih =>
  have h := (Vkh k (hl k (by simp))).2
  have := ih (fun x hx => hl x (by simp [hx]))
  have e : (itoa k).size = (Lib.decDigits k).length := by unfold itoa; exact List.size_toArray
  simp only [Z8, catT, Zm, Zc]
  have e2 : (phI k).fText.size = (itoa k).size := rfl; omega
theorem nst_K (xs : List DInline) (hx : ∀ x ∈ xs, x.fKids ≠ []) (hn : xs.length <= 100) : NsOk (xs.map inE) 0 xs.length /\ nstM (xs.map inE) 0 xs.length = xs := by
 have hk := keeps_K xs hx
 have hm := mgL_K phI (fun _ => show (-1 : Int) ≠ 1 by decide) (Z6 xs.length); refine ⟨⟨fun v hv => ?_, ⟨?_, ?_, ?_⟩, ?_⟩, ?_⟩
 ·rw [Zx, Vpd _ _ _ hv]; exact ⟨rfl, rfl, fun _ => by omega⟩
 ·rw [hk, Zf, List.length_range]; omega
 ·rw [hk]
  have := cat_ph (Z6 xs.length) (fun k hk => by have := List.mem_range.1 hk; omega); rw [List.length_range] at this; omega
 ·rw [hk]; intro x hx; obtain ⟨b, hb, rfl⟩ := Zy.1 hx; exact ⟨rfl, by show Vo2 ⟨⟨#[]⟩, [], []⟩ <= 1073741824; decide, Nat.zero_le _, Nat.zero_le _, fun h => by exact absurd h (show (-1 : Int) ≠ 1 by decide)⟩
 ·rw [hk, hm]; intro x hx; obtain ⟨b, hb, rfl⟩ := Zy.1 hx
  have hb := List.mem_range.1 hb; rw [rsI_ph b (by omega)]; exact .inl ⟨rfl, by omega, hb, rfl⟩
 ·unfold nstM; rw [hk, hm, List.map_map]; apply List.ext_getElem
  ·simp
  ·intro i h1 h2; simp only [List.getElem_map, List.getElem_range, Function.comp]; unfold rst; rw [if_pos (show (phI i).fKind = -1 from rfl), rsI_ph i (by omega), Zx, Vpd _ _ _ h2]
   show el xs i = _; simp [el, h2]
end Go.Proofs.YthbpjmogdonlkaaGreatDoor
set_option maxRecDepth 100000
namespace Go.Proofs.YthbpjmogdonlkaaGreatDoor
open Go Go.Eng
structure Nt (s : ByteArray) : Prop where
 sz : s.size <= 262144
 a7 : A7 s
 noc : NoC s
 nob : NoT s
theorem pce_let {s : ByteArray} {i : Nat} {b : UInt8} {u : List UInt8} (ha : At s i (b :: u)) (hL : Let b) : pceP s ((i : Nat) : Int) = (litP s ((i : Nat) : Int) (((i : Nat) : Int) + 1), true) := by
 have hb := ha.byt; obtain ⟨q1, q2⟩ := hL; unfold pceP; simp only [Za, hb]; rw [beq_false_of_ne (show ((b.toNat : Nat) : Int) ≠ 92 by omega), beq_false_of_ne (show ((b.toNat : Nat) : Int) ≠ 32 by omega), beq_false_of_ne (show ((b.toNat : Nat) : Int) ≠ 10 by omega), beq_false_of_ne (show ((b.toNat : Nat) : Int) ≠ 38 by omega), beq_false_of_ne (show ((b.toNat : Nat) : Int) ≠ 36 by omega), beq_false_of_ne (show ((b.toNat : Nat) : Int) ≠ 96 by omega), beq_false_of_ne (show ((b.toNat : Nat) : Int) ≠ 60 by omega), beq_false_of_ne (show ((b.toNat : Nat) : Int) ≠ 123 by omega), beq_false_of_ne (show ((b.toNat : Nat) : Int) ≠ 91 by omega), beq_false_of_ne (show ((b.toNat : Nat) : Int) ≠ 33 by omega), beq_false_of_ne (show ((b.toNat : Nat) : Int) ≠ 93 by omega), beq_false_of_ne (show ((b.toNat : Nat) : Int) ≠ 42 by omega), beq_false_of_ne (show ((b.toNat : Nat) : Int) ≠ 95 by omega), beq_false_of_ne (show ((b.toNat : Nat) : Int) ≠ 126 by omega)]; rfl
theorem pce_spc {s : ByteArray} {i : Nat} {b : UInt8} {u : List UInt8} (ha : At s i (32 :: b :: u)) (h1 : b.toNat ≠ 32) (h2 : b.toNat ≠ 10) : pceP s ((i : Nat) : Int) = (litP s ((i : Nat) : Int) (((i : Nat) : Int) + 1), true) := by
 have hb := ha.byt
 have hs := ha.size
 have hb2 := ha.tail.byt
 have hk := skpS_at ha h1; simp only [Zc] at hs; unfold pceP; simp only [Za, hb, hk, hb2]; rw [show decide (((i + 1 : Nat) : Int) >= ((ByteArray.size s : Nat) : Int)) = false from decide_eq_false (by omega), show (((b.toNat : Nat) : Int) != 10) = true by rw [bne_iff_ne]; omega]; rfl
theorem nmd_no {s : ByteArray} {i : Nat} {b : UInt8} {u : List UInt8} (ha : At s i (91 :: b :: u)) (h1 : b.toNat ≠ 94) (h2 : b.toNat ≠ 35) : (nmdP s ((i : Nat) : Int)).2 = 0 := by
 have hb := ha.tail.byt; unfold nmdP; rw [show ((i : Nat) : Int) + 1 = ((i + 1 : Nat) : Int) by omega]; simp only [Za, hb]; rw [show (((b.toNat : Nat) : Int) != 94) = true by rw [bne_iff_ne]; omega, show (((b.toNat : Nat) : Int) != 35) = true by rw [bne_iff_ne]; omega]; cases decide (((i + 1 : Nat) : Int) >= ((ByteArray.size s : Nat) : Int)) <;> rfl
theorem cte_no (s : ByteArray) (i : Int) : (cteP s i).2 = 0 := by
 unfold cteP; simp only [ctsP, Bool.not_false, cond_true]; cases cond (decide ((idxA (ByteArray.extract s (Int.toNat (i + 1)) (ByteArray.size s)) ⟨#[91, 93]⟩ : Int) < 0)) true ((((byt s (Int.toNat ((i + 1) + (idxA (ByteArray.extract s (Int.toNat (i + 1)) (ByteArray.size s)) ⟨#[91, 93]⟩)))) : Nat) : Int) != 93) <;> rfl
def dfI : DInline := DInline.mk 0 ⟨#[]⟩ ⟨#[]⟩ ⟨#[]⟩ (DAttr.mk ⟨#[]⟩ [] []) [] [] []
theorem pce_opn {s : ByteArray} {i : Nat} {b : UInt8} {u : List UInt8} (ha : At s i (91 :: b :: u)) (h1 : b.toNat ≠ 94) (h2 : b.toNat ≠ 35) : pceP s ((i : Nat) : Int) = (DPiece.mk 2 dfI ⟨#[]⟩ 0 false false false 0 (((i : Nat) : Int) + 1), false) := by
 have hb := ha.byt
 have e1 := nmd_no ha h1 h2
 have e2 := cte_no s ((i : Nat) : Int); unfold pceP; simp only [Za, hb, e1, e2]; rfl
theorem pce_cls {s : ByteArray} {i : Nat} {u : List UInt8} (ha : At s i (93 :: u)) : pceP s ((i : Nat) : Int) = (DPiece.mk 3 dfI ⟨#[]⟩ 0 false false false 0 (((i : Nat) : Int) + 1), false) := by
 have hb := ha.byt; unfold pceP; simp only [Za, hb]; rfl
def SpbB (b : UInt8) : Prop := b.toNat ≠ 92 /\ b.toNat ≠ 38 /\ b.toNat ≠ 36 /\ b.toNat ≠ 96 /\ b.toNat ≠ 60 /\ b.toNat ≠ 123 /\ b.toNat ≠ 33 /\ b.toNat ≠ 42 /\ b.toNat ≠ 95 /\ b.toNat ≠ 126
theorem SPB.at {s : ByteArray} {i : Nat} {b : UInt8} {u : List UInt8} (ha : At s i (b :: u)) (h : SpbB b) : SPB s ((i : Nat) : Int) := by
 obtain ⟨h1, h2, h3, h4, h5, h6, h7, h8, h9, h10⟩ := h; unfold SPB; rw [Vgw ha]; exact ⟨by omega, by omega, by omega, by omega, by omega, by omega, by omega, by omega, by omega, by omega⟩
theorem Let.spb {b : UInt8} (h : Let b) : SpbB b := by
 obtain ⟨q1, q2⟩ := h; exact ⟨by omega, by omega, by omega, by omega, by omega, by omega, by omega, by omega, by omega, by omega⟩
theorem next_at {s : ByteArray} (hn : Nt s) {i : Nat} {b : UInt8} {u : List UInt8} (ha : At s i (b :: u)) (h : SpbB b) : PNext s ((i : Nat) : Int) (pcA s ((i : Nat) : Int)) (pceP s ((i : Nat) : Int)).2 := by
 have hs := ha.size; simp only [Zc] at hs; exact pcs1_to s _ (by have := hn.sz; omega) (by omega) (by omega) hn.a7 hn.noc (SPB.at ha h)
theorem lt_at {s : ByteArray} {i : Nat} {b : UInt8} {u : List UInt8} (ha : At s i (b :: u)) : ((i : Nat) : Int) < ((s.size : Nat) : Int) := by
 have hs := ha.size; simp only [Zc] at hs; omega
theorem stp_lit {s : ByteArray} (hn : Nt s) {i : Nat} {b : UInt8} {u : List UInt8} (ha : At s i (b :: u)) (h : SpbB b) (hp : pceP s ((i : Nat) : Int) = (litP s ((i : Nat) : Int) (((i : Nat) : Int) + 1), true))
  (els : List DElem) (brs : List Int) (refs : Int) (he : els.length <= 1048576) (hr : 0 <= refs /\ refs <= 1048576) : Stp s ⟨((i : Nat) : Int), els, brs, refs⟩ ⟨((i + 1 : Nat) : Int), els ++ [inE (txI ⟨#[b]⟩)], brs, refs⟩ := by
 refine ⟨lt_at ha, _, _, next_at hn ha h, ?_⟩
 have e : pcA s ((i : Nat) : Int) = { litP s ((i : Nat) : Int) (((i : Nat) : Int) + 1) with fAt := ((i : Nat) : Int) } := by
  unfold pcA; rw [hp]
 have hx : s.extract i (i + 1) = ⟨#[b]⟩ := At.ext (u := [b]) (At.left (v := u) ha)
 have e2 : (pcA s ((i : Nat) : Int)).fInline = txI ⟨#[b]⟩ := by
  rw [e]
  show DInline.mk 1 (ByteArray.extract s (Int.toNat ((i : Nat) : Int)) (Int.toNat (((i : Nat) : Int) + 1))) ⟨#[]⟩ ⟨#[]⟩ (DAttr.mk ⟨#[]⟩ [] []) [] [] [] = _; rw [Za, show Int.toNat (((i : Nat) : Int) + 1) = i + 1 by omega, hx]; rfl
 have hc := pOth_to s els brs refs (pcA s ((i : Nat) : Int)) (by omega) (by omega) (by rw [e]; exact (show (0 : Int) ≠ 1 by decide)) (by rw [e]; exact (show (0 : Int) ≠ 2 by decide)) (by rw [e]; exact (show (0 : Int) ≠ 3 by decide)); rw [e2] at hc
 have e3 : (pcA s ((i : Nat) : Int)).fTo = ((i + 1 : Nat) : Int) := by
  rw [e]
  show ((i : Nat) : Int) + 1 = _; omega
 rw [e3] at hc; exact hc
theorem stp_let {s : ByteArray} (hn : Nt s) {i : Nat} {b : UInt8} {u : List UInt8} (ha : At s i (b :: u)) (hL : Let b) (els : List DElem) (brs : List Int) (refs : Int) (he : els.length <= 1048576) (hr : 0 <= refs /\ refs <= 1048576) : Stp s ⟨((i : Nat) : Int), els, brs, refs⟩ ⟨((i + 1 : Nat) : Int), els ++ [inE (txI ⟨#[b]⟩)], brs, refs⟩ :=
 stp_lit hn ha hL.spb (pce_let ha hL) els brs refs he hr
theorem stp_spc {s : ByteArray} (hn : Nt s) {i : Nat} {b : UInt8} {u : List UInt8} (ha : At s i (32 :: b :: u)) (hL : Let b) (els : List DElem) (brs : List Int) (refs : Int) (he : els.length <= 1048576) (hr : 0 <= refs /\ refs <= 1048576) : Stp s ⟨((i : Nat) : Int), els, brs, refs⟩ ⟨((i + 1 : Nat) : Int), els ++ [inE (txI ⟨#[32]⟩)], brs, refs⟩ := by
 obtain ⟨q1, q2⟩ := hL; exact stp_lit hn ha ⟨by decide, by decide, by decide, by decide, by decide, by decide, by decide, by decide, by decide, by decide⟩ (pce_spc ha (by omega) (by omega)) els brs refs he hr
theorem Vmw {s : ByteArray} (hn : Nt s) : ∀ (w : List UInt8) (i : Nat) (els : List DElem) (brs : List Int) (refs : Int), Lets w -> At s i w -> els.length + w.length <= 1048576 -> (0 <= refs /\ refs <= 1048576) -> Rdg s w.length ⟨((i : Nat) : Int), els, brs, refs⟩ ⟨((i + w.length : Nat) : Int), els ++ rdW w, brs, refs⟩
 | [], i, els, brs, refs, _, _, _, _ => by
  rw [show els ++ rdW [] = els by simp [rdW]]; exact .nil _
 | b :: w, i, els, brs, refs, hL, ha, hl, hr => by
  simp only [Zc] at hl
  have h1 := stp_let hn ha (hL b (by simp)) els brs refs (by omega) hr
  have h2 := Vmw hn w (i + 1) (els ++ [inE (txI ⟨#[b]⟩)]) brs refs (fun x hx => hL x (by simp [hx])) ha.tail (by simp; omega) hr; rw [show i + 1 + w.length = i + (b :: w).length by simp only [Zc]; omega, Zr] at h2; exact .cons h1 h2
def opE (refs : Int) : DElem := DElem.mk 2 (DPiece.mk 0 dfI ⟨#[]⟩ 0 false false false 0 0) false refs
theorem stp_opn {s : ByteArray} (hn : Nt s) {i : Nat} {b : UInt8} {u : List UInt8} (ha : At s i (91 :: b :: u)) (h1 : b.toNat ≠ 94) (h2 : b.toNat ≠ 35) (els : List DElem) (brs : List Int) (refs : Int) (he : els.length <= 1048576) (hb : brs.length <= 1048576) : Stp s ⟨((i : Nat) : Int), els, brs, refs⟩ ⟨((i + 1 : Nat) : Int), els ++ [opE refs], brs ++ [((els.length : Nat) : Int)], refs⟩ := by
 have hp := pce_opn ha h1 h2; refine ⟨lt_at ha, _, _, next_at hn ha ⟨by decide, by decide, by decide, by decide, by decide, by decide, by decide, by decide, by decide, by decide⟩, ?_⟩
 have e : pcA s ((i : Nat) : Int) = { DPiece.mk 2 dfI ⟨#[]⟩ 0 false false false 0 (((i : Nat) : Int) + 1) with fAt := ((i : Nat) : Int) } := by
  unfold pcA; rw [hp]
 have hc := pOpn_to s els brs refs (pcA s ((i : Nat) : Int)) (by omega) (by omega) (by rw [e]); rw [show opnE (pcA s ((i : Nat) : Int)) refs = opE refs by rw [e]; rfl] at hc
 have e3 : (pcA s ((i : Nat) : Int)).fTo = ((i + 1 : Nat) : Int) := by
  rw [e]
  show ((i : Nat) : Int) + 1 = _; omega
 rw [e3] at hc; exact hc
theorem stp_cls {s : ByteArray} (hn : Nt s) {i : Nat} {u : List UInt8} (ha : At s i (93 :: u)) (pre c : List DElem) (brs : List Int) (r0 refs : Int) (he : (pre ++ opE r0 :: c).length <= 1048576) (hb : brs.length <= 1048576) (hr : 0 <= refs /\ refs <= 1048576) (x : DInline) (j : Int)
  (hk : Vhp s (pre ++ opE r0 :: c) brs refs (opE r0) (pre.length + 1) ((i + 1 : Nat) : Int) (x, j, true)) : Stp s ⟨((i : Nat) : Int), pre ++ opE r0 :: c, brs ++ [((pre.length : Nat) : Int)], refs⟩ ⟨j, pre ++ [inE x], brs, cond (refB x.fKind) (refs + 1) refs⟩ := by
 have hp := pce_cls ha; refine ⟨lt_at ha, _, _, next_at hn ha ⟨by decide, by decide, by decide, by decide, by decide, by decide, by decide, by decide, by decide, by decide⟩, ?_⟩
 have e : pcA s ((i : Nat) : Int) = { DPiece.mk 3 dfI ⟨#[]⟩ 0 false false false 0 (((i : Nat) : Int) + 1) with fAt := ((i : Nat) : Int) } := by
  unfold pcA; rw [hp]
 have e3 : (pcA s ((i : Nat) : Int)).fTo = ((i + 1 : Nat) : Int) := by
  rw [e]
  show ((i : Nat) : Int) + 1 = _; omega
 have hel : el (pre ++ opE r0 :: c) (Int.toNat ((pre.length : Nat) : Int)) = opE r0 := by
  rw [Za]
  have := el_app pre (opE r0 :: c) 0; rw [Nat.add_zero] at this; rw [this]; rfl
 have hc := cls2_to s (pre ++ opE r0 :: c) brs ((pre.length : Nat) : Int) refs ((i + 1 : Nat) : Int) x j (by rw [hel, show (((pre.length : Nat) : Int) + 1).toNat = pre.length + 1 by omega]; exact hk) (by omega) (by omega) (by omega) ⟨by omega, by simp; omega⟩; rw [Za, List.take_left] at hc; exact pCls_to s _ _ _ _ _ _ _ _ (by rw [e]) (by rw [e3]; exact hc)
end Go.Proofs.YthbpjmogdonlkaaGreatDoor
set_option maxRecDepth 100000
namespace Go.Proofs.YthbpjmogdonlkaaGreatDoor
open Go Go.Eng
theorem rd_brk {s : ByteArray} (hn : Nt s) {i k n : Nat} {b : UInt8} {u v : List UInt8} (ha : At s i (91 :: b :: u)) (h1 : b.toNat ≠ 94) (h2 : b.toNat ≠ 35) (hk : At s k (93 :: v)) (els C : List DElem) (brs : List Int) (refs : Int) (he : els.length + 1 + C.length <= 1048576) (hb : brs.length <= 1048576) (hr : 0 <= refs /\ refs <= 1048576) (x : DInline) (j : Int)
  (hin : Rdg s n ⟨((i + 1 : Nat) : Int), els ++ [opE refs], brs ++ [((els.length : Nat) : Int)], refs⟩ ⟨((k : Nat) : Int), (els ++ [opE refs]) ++ C, brs ++ [((els.length : Nat) : Int)], refs⟩)
  (hB : Vhp s (els ++ opE refs :: C) brs refs (opE refs) (els.length + 1) ((k + 1 : Nat) : Int) (x, j, true)) :
  Rdg s (n + 2) ⟨((i : Nat) : Int), els, brs, refs⟩ ⟨j, els ++ [inE x], brs, cond (refB x.fKind) (refs + 1) refs⟩ := by
 have o := stp_opn hn ha h1 h2 els brs refs (by omega) hb
 have c := stp_cls hn hk els C brs refs refs (by simp; omega) hb hr x j hB; rw [Zr] at hin
 have hh := Rdg.trans hin (.cons c (.nil _)); exact .cons o hh
theorem Vnp (els C : List DElem) (refs : Int) (xs : List DInline) (h : NsOk C 0 C.length /\ nstM C 0 C.length = xs) : NsOk (els ++ opE refs :: C) (els.length + 1) ((els ++ opE refs :: C).length - (els.length + 1)) /\ nstM (els ++ opE refs :: C) (els.length + 1) ((els ++ opE refs :: C).length - (els.length + 1)) = xs := by
 have e : els ++ opE refs :: C = (els ++ [opE refs]) ++ C := by simp
 have e2 : els.length + 1 = (els ++ [opE refs]).length := by simp
 have e3 : ((els ++ [opE refs]) ++ C).length - (els ++ [opE refs]).length = C.length := by simp only [Zg]; omega
 rw [e, e2, e3]; exact ⟨h.1.pre _, by rw [nstM_pre]; exact h.2⟩
theorem brk_span {s : ByteArray} (hn : Nt s) {k : Nat} {y : List UInt8} (ha : At s k ([123, 46] ++ (y ++ [125]))) (hL : Lets y) (h0 : 0 < y.length) (h1 : y.length <= 60) (els C : List DElem) (brs : List Int) (refs : Int) (he : els.length + 1 + C.length <= 1048576) (xs : List DInline) (hC : NsOk C 0 C.length /\ nstM C 0 C.length = xs) :
  Vhp s (els ++ opE refs :: C) brs refs (opE refs) (els.length + 1) ((k : Nat) : Int) (mkI 11 e0 e0 e0 ⟨e0, [⟨y.toArray⟩], []⟩ xs, ((k + y.length + 3 : Nat) : Int), true) := by
 have hs := ha.size
 have hz := hn.sz; simp only [Zg, Zc, Zp] at hs; obtain ⟨q1, q2⟩ := Vnp els C refs xs hC
 have b0 := Vgw (u := 46 :: (y ++ [125])) ha
 have hb0 : BYi s ((k : Nat) : Int) = 123 := b0
 have b1 := Vgw (At.tail (b := 123) (u := 46 :: (y ++ [125])) ha)
 have hb1 : BYi s (((k : Nat) : Int) + 1) = 46 := by rw [show ((k : Nat) : Int) + 1 = ((k + 1 : Nat) : Int) by omega]; exact b1
 have hy : At s (k + 2) (y ++ [125]) := ha.right
 have hw := wrd_at (by decide) hL hy
 have h3 : At s (k + 2 + y.length) [125] := hy.right
 have hb3 : BYi s ((k + 2 + y.length : Nat) : Int) = 125 := Vgw h3
 have hx : ByteArray.extract s (Int.toNat (((k : Nat) : Int) + 2)) (Int.toNat ((k + 2 + y.length : Nat) : Int)) = ⟨y.toArray⟩ := by
  rw [Za, show Int.toNat (((k : Nat) : Int) + 2) = k + 2 by omega]; exact hy.left.ext
 have hA := par1_to s ⟨y.toArray⟩ ((k : Nat) : Int) ((k + 2 + y.length : Nat) : Int) (by omega) (by omega) hb0 hb1 (by rw [show ((k : Nat) : Int) + 2 = ((k + 2 : Nat) : Int) by omega]; exact hw) (by omega) hb3 hx (nam_let hL h0 h1) (by show y.length <= _; omega); rw [show ((k + 2 + y.length : Nat) : Int) + 1 = ((k + y.length + 3 : Nat) : Int) by omega] at hA
 have hT := tail0_to s ((k : Nat) : Int) (by omega) (by omega) (by rw [hb0]; decide) (by rw [hb0]; decide)
 have hE := eph_to s ((k : Nat) : Int) (by omega) (by omega); rw [eph_no (u := y ++ [125]) ha] at hE
 have hEm := empA_to ⟨e0, [⟨y.toArray⟩], []⟩ (by
  have hz : (Zs y.toArray).size = y.length := rfl
  show 1 + (0 + 1) + (((Zs y.toArray).size + 1) + 0) + 0 <= 1073741824
  omega)
 have h := brkS_to s (els ++ opE refs :: C) brs refs (opE refs) (els.length + 1) ((k : Nat) : Int) ⟨e0, [⟨y.toArray⟩], []⟩ ((k + y.length + 3 : Nat) : Int) 0 hT rfl hE hA hEm (by simp; omega) (by simp) q1; rw [q2] at h; exact h
theorem brk_ref {s : ByteArray} (hn : Nt s) {k : Nat} {y : List UInt8} (ha : At s k ([91] ++ (y ++ [93]))) (hL : Lets y) (h0 : 0 < y.length) (h1 : y.length <= 60) (els C : List DElem) (brs : List Int) (refs : Int) (he : els.length + 1 + C.length <= 1048576) (xs : List DInline) (hC : NsOk C 0 C.length /\ nstM C 0 C.length = xs) :
  Vhp s (els ++ opE refs :: C) brs refs (opE refs) (els.length + 1) ((k : Nat) : Int) (mkI 9 ⟨y.toArray⟩ e0 e0 at0 xs, ((k + y.length + 2 : Nat) : Int), true) := by
 have hs := ha.size
 have hz := hn.sz; simp only [Zg, Zc, Zp] at hs; obtain ⟨q1, q2⟩ := Vnp els C refs xs hC
 have hb0 : BYi s ((k : Nat) : Int) = 91 := Vgw (u := y ++ [93]) ha
 have hy : At s (k + 1) (y ++ [93]) := ha.right; obtain ⟨c1, c2⟩ := cut_at hL hy
 have hi : Int.toNat (((k : Nat) : Int) + 1) = k + 1 := by omega
 have hT := tail2_to s ((k : Nat) : Int) ⟨y.toArray⟩ (by omega) (by omega) (by omega) hb0 (by rw [hi]; exact c1) (by rw [hi]; exact c2) (by show y.length <= _; omega) (by show 0 < y.length; omega) hL.LetS
 have e : (((k : Nat) : Int) + (((Zs y.toArray).size : Nat) : Int) + 2) = ((k + y.length + 2 : Nat) : Int) := by
  have hz : (Zs y.toArray).size = y.length := rfl; rw [hz]; omega
 rw [e] at hT
 have h := brkL_to s (els ++ opE refs :: C) brs refs (opE refs) (els.length + 1) ((k : Nat) : Int) e0 e0 ⟨y.toArray⟩ ((k + y.length + 2 : Nat) : Int) hT rfl (Int.le_refl _) (by simp; omega) (by simp) q1; rw [q2] at h; exact h
theorem brk_dst {s : ByteArray} (hn : Nt s) {k : Nat} {y : List UInt8} (ha : At s k ([40] ++ (y ++ [41]))) (hL : Lets y) (h0 : 0 < y.length) (h1 : y.length <= 60) (els C : List DElem) (brs : List Int) (refs : Int) (he : els.length + 1 + C.length <= 1048576) (xs : List DInline) (hC : NsOk C 0 C.length /\ nstM C 0 C.length = xs) :
  Vhp s (els ++ opE refs :: C) brs refs (opE refs) (els.length + 1) ((k : Nat) : Int) (mkI 9 e0 ⟨y.toArray⟩ e0 at0 xs, ((k + y.length + 2 : Nat) : Int), true) := by
 have hs := ha.size
 have hz := hn.sz; simp only [Zg, Zc, Zp] at hs; obtain ⟨q1, q2⟩ := Vnp els C refs xs hC
 have hb0 : BYi s ((k : Nat) : Int) = 40 := Vgw (u := y ++ [41]) ha
 have hy : At s (k + 1) (y ++ [41]) := ha.right
 have h3 : At s (k + 1 + y.length) [41] := hy.right
 have hb3 : BYi s ((k + 1 + y.length : Nat) : Int) = 41 := Vgw h3
 have hd := dst_at hL h0 hy
 have k2 := skpL_at h3 (by decide) (by decide); obtain ⟨b, u, rfl⟩ : ∃ b u, y = b :: u := Zj h0; obtain ⟨p1, p2⟩ := hL b (by simp)
 have hb1 := Vgw (b := b) (u := u ++ [41]) hy
 have k1 := skpL_at (b := b) (u := u ++ [41]) hy (by omega) (by omega)
 have hi : ((k : Nat) : Int) + 1 = ((k + 1 : Nat) : Int) := by omega
 have hT := tail1_to s ((k : Nat) : Int) ((k + 1 + (b :: u).length : Nat) : Int) ⟨(b :: u).toArray⟩ (by omega) (by omega) hb0 (by simp only [Zc]; omega) (by simp only [Zc] at hs ⊢; omega) (by rw [hi, hb1]; omega) hb3 (by rw [hi]; exact k1) k2 (by rw [hi, hb1]; omega) (by rw [hi]; exact hd); rw [show ((k + 1 + (b :: u).length : Nat) : Int) + 1 = ((k + (b :: u).length + 2 : Nat) : Int) by omega] at hT
 have h := brkL_to s (els ++ opE refs :: C) brs refs (opE refs) (els.length + 1) ((k : Nat) : Int) ⟨(b :: u).toArray⟩ e0 e0 ((k + (b :: u).length + 2 : Nat) : Int) hT rfl (Int.le_refl _) (by simp; omega) (by simp) q1; rw [q2] at h; exact h
def EMB : List UInt8 := [123, 61, 101, 109, 112, 104, 125]
theorem brk_emp {s : ByteArray} (hn : Nt s) {k : Nat} (ha : At s k EMB) (els C : List DElem) (brs : List Int) (refs : Int) (he : els.length + 1 + C.length <= 1048576) (xs : List DInline) (hC : NsOk C 0 C.length /\ nstM C 0 C.length = xs) (hx : xs ≠ []) :
  Vhp s (els ++ opE refs :: C) brs refs (opE refs) (els.length + 1) ((k : Nat) : Int) (mkI 6 e0 e0 e0 at0 xs, ((k + 7 : Nat) : Int), true) := by
 have hs := ha.size
 have hz := hn.sz; simp only [EMB, Zc, Zp] at hs; obtain ⟨q1, q2⟩ := Vnp els C refs xs hC
 have hb0 : BYi s ((k : Nat) : Int) = 123 := Vgw (u := [61, 101, 109, 112, 104, 125]) ha
 have hT := tail0_to s ((k : Nat) : Int) (by omega) (by omega) (by rw [hb0]; decide) (by rw [hb0]; decide)
 have hE := eph_to s ((k : Nat) : Int) (by omega) (by omega); rw [eph_at ha] at hE
 have h := brkE_to s (els ++ opE refs :: C) brs refs (opE refs) (els.length + 1) ((k : Nat) : Int) 6 ((k + 7 : Nat) : Int) hT rfl hE (by decide) (by simp; omega) (by simp) q1 (by rw [q2]; exact hx); rw [q2] at h; exact h
theorem rd_bw {s : ByteArray} (hn : Nt s) {i : Nat} {x : List UInt8} (ha : At s i ([91] ++ (x ++ [93]))) (hL : Lets x) (h0 : 0 < x.length) (els : List DElem) (brs : List Int) (refs : Int) (he : els.length + 1 + x.length <= 1048576) (hb : brs.length + 1 <= 1048576) (hr : 0 <= refs /\ refs <= 1048576) (X : DInline) (j : Int)
  (hB : Vhp s (els ++ opE refs :: rdW x) brs refs (opE refs) (els.length + 1) ((i + x.length + 2 : Nat) : Int) (X, j, true)) :
  Rdg s (x.length + 2) ⟨((i : Nat) : Int), els, brs, refs⟩ ⟨j, els ++ [inE X], brs, cond (refB X.fKind) (refs + 1) refs⟩ := by
 have hy : At s (i + 1) (x ++ [93]) := ha.right
 have h3 : At s (i + 1 + x.length) [93] := hy.right
 have hw := Vmw hn x (i + 1) (els ++ [opE refs]) (brs ++ [((els.length : Nat) : Int)]) refs hL hy.left (by simp; omega) hr; obtain ⟨b, u, rfl⟩ : ∃ b u, x = b :: u := Zj h0; obtain ⟨p1, p2⟩ := hL b (by simp); refine rd_brk hn (b := b) (u := u ++ [93]) ha (by omega) (by omega) h3 els (rdW (b :: u)) brs refs (by simp [rdW] at he ⊢; omega) (by omega) hr X j hw ?_; rw [show i + 1 + (b :: u).length + 1 = i + (b :: u).length + 2 by omega]; exact hB
theorem Nt.of {l : List UInt8} (h : ∀ b ∈ l, b.toNat < 128 /\ b.toNat ≠ 59 /\ b.toNat ≠ 64 /\ b.toNat ≠ 96) (hz : l.length <= 262144) : Nt ⟨l.toArray⟩ := by
 have e : (Zs l.toArray).data.toList = l := by simp
 refine ⟨hz, fun j b hj => ?_, fun b hb => ?_, fun j hj => ?_⟩
 ·rw [e] at hj; exact (h b (List.mem_of_getElem? hj)).1
 ·rw [e] at hb; obtain ⟨_, h2, h3, _⟩ := h b hb; exact ⟨fun q => by rw [q] at h2; exact h2 rfl, fun q => by rw [q] at h3; exact h3 rfl⟩
 ·have hj : j < l.length := hj; rw [Vno, e, Zv, Zk hj]
  have := (h _ (List.getElem_mem hj)).2.2.2; simp only [Option.getD_some]; omega
theorem Let.nt {b : UInt8} (h : Let b) : b.toNat < 128 /\ b.toNat ≠ 59 /\ b.toNat ≠ 64 /\ b.toNat ≠ 96 := by
 obtain ⟨q1, q2⟩ := h; exact ⟨by omega, by omega, by omega, by omega⟩
end Go.Proofs.YthbpjmogdonlkaaGreatDoor
set_option maxRecDepth 100000
namespace Go.Proofs.YthbpjmogdonlkaaGreatDoor
open Go Go.Eng
end Go.Proofs.YthbpjmogdonlkaaGreatDoor
set_option maxRecDepth 100000
namespace Go.Proofs.YthbpjmogdonlkaaGreatDoor
open Go Go.Eng
theorem let_ends {w : List UInt8} (hL : Lets w) : ∀ b ∈ w, b ≠ 32 /\ b ≠ 10 := by
 intro b hb; obtain ⟨q1, q2⟩ := hL b hb; refine ⟨fun e => ?_, fun e => ?_⟩ <;> (rw [e] at q1; exact absurd q1 (by decide))
theorem par_of {l : List UInt8} (hN : Nt ⟨l.toArray⟩) (h1 : ∀ b, l.head? = some b -> b ≠ 32 /\ b ≠ 10) (h2 : ∀ b, l.getLast? = some b -> b ≠ 32 /\ b ≠ 10) {n : Nat} {els : List DElem} {refs : Int} (hR : Rdg ⟨l.toArray⟩ n ⟨0, [], [], 0⟩ ⟨((l.length : Nat) : Int), els, [], refs⟩) (he : els.length <= 1048576) {xs : List DInline} (hns : NsOk els 0 els.length /\ nstM els 0 els.length = xs) (h0 : 0 < xs.length) (k : Nat) (hk : k <= 15) (hnb : nbN (k + 1) xs) (hz : szN (k + 1) xs <= 32768) :
  CallTo Tryz.prog 11 [jS ⟨l.toArray⟩] [] [] (.av (.tup [.sl (xs.map Va1), vI 0])) [] [] := by
 have hsz : (Zs l.toArray).size = l.length := rfl
 have hkk : ∀ x ∈ xs, x.fKind ≠ 2 /\ x.fKind ≠ 3 := fun x hx => ⟨(hnb.2 x hx).1, (hnb.2 x hx).2.1⟩
 have hs := hN.sz
 have hR2 := read_to ⟨l.toArray⟩ (by omega) hN.nob n ⟨((l.length : Nat) : Int), els, [], refs⟩ hR (by rw [hsz]; exact Int.le_refl _) rfl (by show els.length <= _; omega) hns.1 (k + 1) (by
  show nbN (k + 1) (nstM els 0 els.length)
  rw [hns.2]; exact hnb) (by
  show 0 < (nstM els 0 els.length).length
  rw [hns.2]; exact h0) (by
  show ∀ x ∈ nstM els 0 els.length, _
  rw [hns.2]; exact hkk)
 simp only [hns.2] at hR2; refine par_to ⟨l.toArray⟩ ⟨l.toArray⟩ els refs xs hs (trm_id h1 h2) hR2 (k + 1) (by omega) hnb hz _ ?_; rw [if_pos]; exact Nat.le_trans (dptN_le _ _) (by omega)
theorem nb_txt (t : ByteArray) : nbN 1 [txI t] := ⟨by simp, fun x hx => by
 rw [List.mem_singleton] at hx; subst hx
 exact ⟨(show (1 : Int) ≠ 2 by decide), (show (1 : Int) ≠ 3 by decide), rfl⟩⟩
theorem par_two {x y : List UInt8} (hx : Lets x) (hy : Lets y) (hx0 : 0 < x.length) (hy0 : 0 < y.length) (hx1 : x.length <= 1000) (hy1 : y.length <= 1000) :
  CallTo Tryz.prog 11 [jS ⟨(x ++ (32 :: y)).toArray⟩] [] [] (.av (.tup [.sl ([txI ⟨(x ++ (32 :: y)).toArray⟩].map Va1), vI 0])) [] [] := by
 obtain ⟨b, u, rfl⟩ : ∃ b u, y = b :: u := Zj hy0
 have hN : Nt ⟨(x ++ (32 :: b :: u)).toArray⟩ := Nt.of (fun c hc => by
  rw [List.mem_append, Zd] at hc; rcases hc with hc | rfl | hc
  ·exact (hx c hc).nt
  ·decide
  ·exact (hy c hc).nt) (by simp at *; omega)
 have ha : At ⟨(x ++ (32 :: b :: u)).toArray⟩ 0 (x ++ (32 :: b :: u)) := by simpa using At.all ⟨(x ++ (32 :: b :: u)).toArray⟩
 have r1 := Vmw hN x 0 [] [] 0 hx ha.left (by simp; omega) ⟨by omega, by omega⟩
 have a2 := ha.right
 have r2 := stp_spc hN a2 (hy b (by simp)) ([] ++ rdW x) [] 0 (by simp [rdW]; omega) ⟨by omega, by omega⟩
 have a3 := a2.tail
 have r3 := Vmw hN (b :: u) (0 + x.length + 1) (([] ++ rdW x) ++ [inE (txI ⟨#[32]⟩)]) [] 0 hy a3 (by simp [rdW] at *; omega) ⟨by omega, by omega⟩
 have r := Rdg.trans r1 (.cons r2 r3)
 have e1 : ((0 + x.length + 1 + (b :: u).length : Nat) : Int) = (((x ++ (32 :: b :: u)).length : Nat) : Int) := by simp only [Zg, Zc]; omega
 have e2 : ([] ++ rdW x) ++ [inE (txI ⟨#[32]⟩)] ++ rdW (b :: u) = rdW (x ++ (32 :: b :: u)) := by simp [rdW]
 rw [e1, e2] at r
 have hl : (rdW (x ++ (32 :: b :: u))).length = (x ++ (32 :: b :: u)).length := by simp [rdW]
 have hns := nst_W (x ++ (32 :: b :: u)) (by rw [Zg]; omega) (by rw [Zg, Zc]; omega); rw [<- hl] at hns
 refine par_of hN (fun c hc => ?_) (fun c hc => ?_) r (by rw [hl, Zg, Zc]; omega) hns (by simp) 0 (by omega) (nb_txt _) (by
  show 1 <= 32768
  decide)
 ·obtain ⟨a, v, rfl⟩ : ∃ a v, x = a :: v := Zj hx0; simp only [Zq, List.head?_cons, Option.some.injEq] at hc; subst hc; exact let_ends hx _ (by simp)
 ·rw [List.getLast?_append] at hc
  have : (b :: u).getLast? = some c := by
   rw [List.getLast?_cons_cons] at hc; rw [List.getLast?_eq_some_getLast (by simp)] at hc ⊢; simpa using hc
  exact let_ends hy c (List.mem_of_getLast? this)
def wtx (x y : List UInt8) : List UInt8 := ([91] ++ (x ++ [93])) ++ (([40] ++ (y ++ [41])) ++ (([91] ++ (x ++ [93])) ++ (([91] ++ (y ++ [93])) ++ (([91] ++ (x ++ [93])) ++ (([123, 46] ++ (y ++ [125])) ++ (([91] ++ (x ++ [93])) ++ EMB))))))
def wXs (x y : List UInt8) : List DInline := [mkI 9 e0 ⟨y.toArray⟩ e0 at0 [txI ⟨x.toArray⟩], mkI 9 ⟨y.toArray⟩ e0 e0 at0 [txI ⟨x.toArray⟩], mkI 11 e0 e0 e0 ⟨e0, [⟨y.toArray⟩], []⟩ [txI ⟨x.toArray⟩], mkI 6 e0 e0 e0 at0 [txI ⟨x.toArray⟩]]
theorem wtx_mem {x y : List UInt8} (hx : Lets x) (hy : Lets y) : ∀ b ∈ wtx x y, b.toNat < 128 /\ b.toNat ≠ 59 /\ b.toNat ≠ 64 /\ b.toNat ≠ 96 := by
 have h : ∀ b ∈ wtx x y, b ∈ x \/ b ∈ y \/ b ∈ ([91, 93, 40, 41, 123, 46, 125, 61, 101, 109, 112, 104] : List UInt8) := by
  intro b hb; simp only [wtx, EMB, List.mem_append, Zd, Zb, or_false] at hb ⊢; rcases hb with (h | h | h) | (h | h | h) | (h | h | h) | (h | h | h) | (h | h | h) | ((h | h) | h | h) | (h | h | h) | h
  all_goals first
   | exact .inl h
   | exact .inr (.inl h)
   | (subst h; simp)
   | (rcases h with h | h | h | h | h | h | h <;> (subst h; simp))
 intro b hb; rcases h b hb with h | h | h
 ·exact (hx b h).nt
 ·exact (hy b h).nt
 ·simp only [Zd, Zb, or_false] at h; rcases h with rfl | rfl | rfl | rfl | rfl | rfl | rfl | rfl | rfl | rfl | rfl | rfl <;> decide
theorem wtx_len (x y : List UInt8) : (wtx x y).length = 4 * x.length + 3 * y.length + 22 := by
 simp only [wtx, EMB, Zg, Zc, Zp]; omega
theorem par_wtx {x y : List UInt8} (hx : Lets x) (hy : Lets y) (hx0 : 0 < x.length) (hy0 : 0 < y.length) (hx1 : x.length <= 60) (hy1 : y.length <= 60) :
  CallTo Tryz.prog 11 [jS ⟨(wtx x y).toArray⟩] [] [] (.av (.tup [.sl ((wXs x y).map Va1), vI 0])) [] [] := by
 have hlen := wtx_len x y
 have hN : Nt ⟨(wtx x y).toArray⟩ := Nt.of (wtx_mem hx hy) (by omega)
 have ha : At ⟨(wtx x y).toArray⟩ 0 (wtx x y) := by simpa using At.all ⟨(wtx x y).toArray⟩
 have hns := nst_W x hx0 (by omega)
 have hl : (rdW x).length = x.length := by simp [rdW]
 rw [<- hl] at hns
 have a1 : At ⟨(wtx x y).toArray⟩ 0 ([91] ++ (x ++ [93])) := ha.left
 have ha := ha.right
 have a2 := ha.left
 have ha := ha.right
 have a3 := ha.left
 have ha := ha.right
 have a4 := ha.left
 have ha := ha.right
 have a5 := ha.left
 have ha := ha.right
 have a6 := ha.left
 have ha := ha.right
 have a7 := ha.left
 have a8 := ha.right; generalize hk1 : 0 + ([91] ++ (x ++ [93])).length = k1 at *
 generalize hk2 : k1 + ([40] ++ (y ++ [41])).length = k2 at *
 generalize hk3 : k2 + ([91] ++ (x ++ [93])).length = k3 at *
 generalize hk4 : k3 + ([91] ++ (y ++ [93])).length = k4 at *
 generalize hk5 : k4 + ([91] ++ (x ++ [93])).length = k5 at *
 generalize hk6 : k5 + ([123, 46] ++ (y ++ [125])).length = k6 at *
 generalize hk7 : k6 + ([91] ++ (x ++ [93])).length = k7 at *
 simp only [Zg, Zc, Zp] at hk1 hk2 hk3 hk4 hk5 hk6 hk7; generalize hE1 : ([] : List DElem) ++ [inE (mkI 9 e0 ⟨y.toArray⟩ e0 at0 [txI ⟨x.toArray⟩])] = E1; generalize hE2 : E1 ++ [inE (mkI 9 ⟨y.toArray⟩ e0 e0 at0 [txI ⟨x.toArray⟩])] = E2; generalize hE3 : E2 ++ [inE (mkI 11 e0 e0 e0 ⟨e0, [⟨y.toArray⟩], []⟩ [txI ⟨x.toArray⟩])] = E3
 have l1 : E1.length = 1 := by rw [<- hE1]; rfl
 have l2 : E2.length = 2 := by rw [<- hE2]; simp [l1]
 have l3 : E3.length = 3 := by rw [<- hE3]; simp [l2]
 have b1 := brk_dst hN a2 hy hy0 hy1 [] (rdW x) [] 0 (by rw [hl]; simp; omega) _ hns; rw [show k1 = 0 + x.length + 2 by omega] at b1
 have r1 := rd_bw hN a1 hx hx0 [] [] 0 (by simp; omega) (by simp) ⟨by omega, by omega⟩ _ _ b1; rw [show ((0 + x.length + 2 + y.length + 2 : Nat) : Int) = ((k2 : Nat) : Int) by omega, hE1] at r1
 have b2 := brk_ref hN a4 hy hy0 hy1 E1 (rdW x) [] 1 (by rw [hl]; omega) _ hns; rw [show k3 = k2 + x.length + 2 by omega] at b2
 have r2 := rd_bw hN a3 hx hx0 E1 [] 1 (by omega) (by simp) ⟨by omega, by omega⟩ _ _ b2; rw [show ((k2 + x.length + 2 + y.length + 2 : Nat) : Int) = ((k4 : Nat) : Int) by omega, hE2] at r2
 have b3 := brk_span hN a6 hy hy0 hy1 E2 (rdW x) [] 2 (by rw [hl]; omega) _ hns; rw [show k5 = k4 + x.length + 2 by omega] at b3
 have r3 := rd_bw hN a5 hx hx0 E2 [] 2 (by omega) (by simp) ⟨by omega, by omega⟩ _ _ b3; rw [show ((k4 + x.length + 2 + y.length + 3 : Nat) : Int) = ((k6 : Nat) : Int) by omega, hE3] at r3
 have b4 := brk_emp hN a8 E3 (rdW x) [] 2 (by rw [hl]; omega) _ hns (by simp); rw [show k7 = k6 + x.length + 2 by omega] at b4
 have r4 := rd_bw hN a7 hx hx0 E3 [] 2 (by omega) (by simp) ⟨by omega, by omega⟩ _ _ b4; rw [show ((k6 + x.length + 2 + 7 : Nat) : Int) = (((wtx x y).length : Nat) : Int) by omega] at r4
 have r := Rdg.trans r1 (Rdg.trans r2 (Rdg.trans r3 r4))
 have e : E3 ++ [inE (mkI 6 e0 e0 e0 at0 [txI ⟨x.toArray⟩])] = (wXs x y).map inE := by
  rw [<- hE3, <- hE2, <- hE1]; rfl
 rw [e] at r
 have hnk := nst_K (wXs x y) (fun z hz => by
  simp only [wXs, Zd, Zb, or_false] at hz
  rcases hz with rfl | rfl | rfl | rfl <;> simp [mkI]) (by simp [wXs])
 have hlm : ((wXs x y).map inE).length = (wXs x y).length := by simp
 rw [<- hlm] at hnk
 refine par_of hN (fun c hc => ?_) (fun c hc => ?_) r (by simp [wXs]) hnk (by simp [wXs]) 1 (by omega) ⟨by simp [wXs], fun z hz => ?_⟩ (by
  show 8 <= 32768
  decide)
 ·have : c = 91 := by
   have e : (wtx x y).head? = some 91 := rfl; rw [e] at hc; simpa using hc.symm
  subst this; decide
 ·have : c = 125 := by
   have e : (wtx x y).getLast? = some 125 := by unfold wtx; simp only [List.getLast?_append]; rfl
   rw [e] at hc; simpa using hc.symm
  subst this; decide
 ·simp only [wXs, Zd, Zb, or_false] at hz; rcases hz with rfl | rfl | rfl | rfl
  all_goals exact ⟨(by simp [mkI]), (by simp [mkI]), nb_txt _⟩
def aByt (b : UInt8) : AV := .val (.int .u8 ((b.toNat : Nat) : Int))
def wb (b : UInt8) : ByteArray := Vc7 [.val (.int .u8 ((97 + b.toNat % 26 : Nat) : Int))]
def wc (b : UInt8) : UInt8 := UInt8.ofNat ((97 + b.toNat % 26 : Nat) : Int).toNat
theorem wb_eq (b : UInt8) : wb b = ⟨#[wc b]⟩ := rfl
theorem wc_let (b : UInt8) : Let (wc b) := by
 unfold Let wc
 have : b.toNat % 26 < 26 := Nat.mod_lt _ (by decide); rw [Za, UInt8.toNat_ofNat']; omega
def wrd (l : List UInt8) : List UInt8 := 119 :: (l.take 20).map wc
def wrdP (l : List UInt8) (v : Nat) : ByteArray := ⟨(119 :: (l.take v).map wc).toArray⟩
theorem wrd_let (l : List UInt8) : Lets (wrd l) := by
 intro b hb; rcases Zd.1 hb with rfl | hb
 ·exact ⟨by decide, by decide⟩
 ·obtain ⟨c, _, rfl⟩ := Zy.1 hb; exact wc_let c
theorem wrd_len (l : List UInt8) : 0 < (wrd l).length /\ (wrd l).length <= 21 := by
 simp only [wrd, Zc, Zf, Zu]; omega
theorem wrdP_succ {l : List UInt8} {v : Nat} (h : v < l.length) : wrdP l v ++ wb (l.getD v 0) = wrdP l (v + 1) := by
 unfold wrdP; rw [wb_eq, Zl h]; apply ByteArray.ext; apply Z7.1; simp [List.getD, h]; rw [<- List.map_take, <- List.map_take, Zl h, Z1]; rfl
theorem wrdP_end {l : List UInt8} {v : Nat} (h : v <= l.length) (h2 : v <= 20) (h3 : ¬ (v < l.length /\ v < 20)) : wrdP l v = ⟨(wrd l).toArray⟩ := by
 unfold wrdP wrd; rcases Nat.lt_or_ge v 20 with h4 | h4
 ·have : v = l.length := by omega
  rw [Zh (by omega), Zh (by omega)]
 ·rw [show v = 20 by omega]
theorem wrdP_size (l : List UInt8) (v : Nat) : (wrdP l v).size <= v + 1 := by
 show (119 :: (l.take v).map wc).length <= _; simp; omega
theorem el_byt (l : List UInt8) (v : Nat) (h : v < l.length) : 0 <= ((v : Nat) : Int) /\ (l.map aByt)[((v : Nat) : Int).toNat]? = some (aByt (l.getD v 0)) := by
 refine ⟨by omega, ?_⟩; rw [Za, Z2, Zk h]; simp [List.getD, h]
theorem word_to (l : List UInt8) : CallTo Tryz.prog 15 [jL (l.map aByt)] [] [] (jS ⟨(wrd l).toArray⟩) [] [] := by
 have hml : (l.map aByt).length = l.length := Zf ..; refine BEG (fun _ : Unit => jS ⟨(wrd l).toArray⟩) () Tryz.func15 (by kernel_rfl) ?_; refine gO (tn 3 z) ?_; refine LP (n := l.length + 1) (fun N M S => ∃ v : Nat, (v <= l.length) /\ (v <= 20) /\ (l.length - v < N) /\ M = () /\ S = (sx 26 [(0, jL (l.map aByt)), (3, jS (wrdP l v)), (4, jI ((v : Nat) : Int))] [] [])) (by kernel_rfl) ⟨0, by omega, by omega, by omega, rfl, rfl⟩ (WK (by kernel_rfl)) ?_; rintro n M S ⟨v, hv, h20, hF, rfl, rfl⟩; obtain ⟨n, rfl⟩ : ∃ k, n = k + 1 := ⟨n - 1, by omega⟩
 by_cases h1 : v < l.length
 ·have hd : decide (((v : Nat) : Int) < (((l.map aByt).length : Nat) : Int)) = true := decide_eq_true (by omega)
  by_cases h2 : v < 20
  ·have hd2 : decide (((v : Nat) : Int) < 20) = true := decide_eq_true (by omega)
   have hs := wrdP_size l v
   have hb := (l.getD v 0).toNat_lt
   have hwr := wrE (((v : Nat) : Int) + 1) ((v + 1 : Nat) : Int) (by omega)
   have hm : IntKind.u8.wrap (97 + Int.tmod (((l.getD v 0).toNat : Nat) : Int) 26) = ((97 + (l.getD v 0).toNat % 26 : Nat) : Int) := by
    generalize (l.getD v 0).toNat = b at hb
    have e : Int.tmod ((b : Nat) : Int) 26 = ((b % 26 : Nat) : Int) := by
     rw [Int.tmod_eq_emod_of_nonneg (by omega)]; omega
    rw [e]; simp only [IntKind.wrap, IntKind.signed, IntKind.bits]; simp; omega
   have hun : Uni 1 [(.val (.int .u8 ((97 + (l.getD v 0).toNat % 26 : Nat) : Int)) : AV)] := uni1 rfl rfl
   have hib : List.all [(.val (.int .u8 ((97 + (l.getD v 0).toNat % 26 : Nat) : Int)) : AV)] AV.isByte = true := rfl
   have hsz : (((wrdP l v).size + (wb (l.getD v 0)).size : Nat) : Int) <= IntKind.i64.max := by rw [show (wb (l.getD v 0)).size = 1 from rfl, show IntKind.i64.max = 9223372036854775807 from rfl]; omega
   refine gO (tn 5 (kb hd (tn 1 (kb hd (tn 1 (kb hd (kb hd2 (tn 3 (ke (el_byt l v h1) (tn 1 (kp (show (26 : Int) ≠ 0 by decide) (kn hm (kp hun (kp hib (kp hsz (tn 2 (kn hwr (tn 1 z)))))))))))))))))) ?_; exact AG ⟨v + 1, by omega, by omega, by omega, rfl, by rw [<- wrdP_succ h1]⟩ (WK (by kernel_rfl)) (by kernel_rfl) (Ze _)
  ·have hd2 : decide (((v : Nat) : Int) < 20) = false := decide_eq_false (by omega)
   have he := wrdP_end hv h20 (fun h => h2 h.2); refine gO (tn 5 (kb hd (tn 1 (kb hd (tn 1 (kb hd (kb hd2 z))))))) ?_; refine OUT (tn 2 z) (by kernel_rfl) ?_; exact ENw (r := jS (wrdP l v)) (by rw [he]) (by kernel_rfl)
 ·have hd : decide (((v : Nat) : Int) < (((l.map aByt).length : Nat) : Int)) = false := decide_eq_false (by omega)
  have he := wrdP_end hv h20 (fun h => h1 h.1); refine gO (tn 5 (kb hd (kb hd (kb hd (kb (rfl : false = false) z))))) ?_; refine OUT (tn 2 z) (by kernel_rfl) ?_; exact ENw (r := jS (wrdP l v)) (by rw [he]) (by kernel_rfl)
theorem kinds_to (l : List DInline) (ks : List Int) (h : l.map (fun x => x.fKind) = ks) (hl : l.length <= 1048576) : CallTo Tryz.prog 16 [jL (l.map Va1), jL (ks.map vI)] [] [] (jB true) [] [] := by
 have hml : (l.map Va1).length = l.length := Zf ..
 have hkl : ks.length = l.length := by rw [<- h, Zf]
 have hmk : (ks.map vI).length = l.length := by rw [Zf, hkl]
 have hne : ((((l.map Va1).length : Nat) : Int) != (((ks.map vI).length : Nat) : Int)) = false := by rw [hml, hmk]; simp
 refine BEG (fun _ : Unit => jB true) () Tryz.func16 (by kernel_rfl) ?_; refine gO (tn 6 (kb hne (tn 1 z))) ?_; refine LP (n := l.length + 1) (fun N M S => ∃ v : Nat, (v <= l.length) /\ (l.length - v < N) /\ M = () /\ S = (sx 27 [(0, jL (l.map Va1)), (1, jL (ks.map vI)), (5, jI ((v : Nat) : Int))] [] [])) (by kernel_rfl) ⟨0, by omega, by omega, rfl, rfl⟩ (WK (by kernel_rfl)) ?_; rintro n M S ⟨v, hv, hF, rfl, rfl⟩; obtain ⟨n, rfl⟩ : ∃ k, n = k + 1 := ⟨n - 1, by omega⟩
 by_cases h1 : v < l.length
 ·have hd : decide (((v : Nat) : Int) < (((l.map Va1).length : Nat) : Int)) = true := decide_eq_true (by omega)
  have hwr := wrE (((v : Nat) : Int) + 1) ((v + 1 : Nat) : Int) (by omega)
  have hi1 : 0 <= ((v : Nat) : Int) /\ ((v : Nat) : Int) < (((l.map Va1).length : Nat) : Int) := ⟨by omega, by omega⟩
  have he1 := Vax l v h1
  have he2 : 0 <= ((v : Nat) : Int) /\ (ks.map vI)[((v : Nat) : Int).toNat]? = some (vI (el l v).fKind) := by
   refine ⟨by omega, ?_⟩; rw [Za, <- h, List.map_map, Z2, Zk h1]; simp [el, h1]
  have hq : ((el l v).fKind != (el l v).fKind) = false := by simp
  refine gO (tn 4 (kb hd z)) ?_; refine DR3 (tn 2 (ke he1 (tn 4 (ke he2 (tn 2 z))))) (by kernel_rfl) (by kernel_rfl) (by kernel_rfl) ?_; refine gO (kb hq (tn 1 (kn hwr (tn 1 z)))) ?_; exact AG (m := n) ⟨v + 1, by omega, by omega, rfl, rfl⟩ (WK (by kernel_rfl)) (by kernel_rfl) (Ze _)
 ·have hd : decide (((v : Nat) : Int) < (((l.map Va1).length : Nat) : Int)) = false := decide_eq_false (by omega); refine gO (tn 4 (kb hd z)) ?_; refine OUT (tn 1 z) (by kernel_rfl) ?_; exact ENw (r := jB true) rfl (by kernel_rfl)
def plP : Nat -> List DInline -> Prop
 | 0, l => l = []
 | n + 1, l => l.length <= 1048576 /\ ∀ x ∈ l, x.fKind = 1 \/ ((x.fKind = 6 \/ x.fKind = 9 \/ x.fKind = 11) /\ plP n x.fKids)
def plT : Nat -> List DInline -> ByteArray
 | 0, _ => e0
 | n + 1, l => l.foldl (fun t x => t ++ if x.fKind = 1 then x.fText else plT n x.fKids) e0
def plC : Nat -> List DInline -> Nat
 | 0, _ => 0
 | n + 1, l => l.foldl (fun c x => c + if x.fKind = 1 then 1 else plC n x.fKids) 0
theorem Vng {f : DInline -> ByteArray} : ∀ (l : List DInline) (t : ByteArray), l.foldl (fun t x => t ++ f x) t = t ++ l.foldl (fun t x => t ++ f x) e0
 | [], t => by simp only [Zw]; exact (Vpz t).symm
 | x :: l, t => by
  simp only [Zn]; rw [Vng l (t ++ f x), Vng l (e0 ++ f x), show e0 ++ f x = f x from nil_ba _, Zt]
theorem foldl_sz {f : DInline -> ByteArray} (l : List DInline) (v : Nat) (h : v < l.length) : ((l.take v).foldl (fun t x => t ++ f x) e0).size + (f (el l v)).size <= (l.foldl (fun t x => t ++ f x) e0).size := by
 have e : l.foldl (fun t x => t ++ f x) e0 = ((l.take v).foldl (fun t x => t ++ f x) e0 ++ f (el l v)) ++ (l.drop (v + 1)).foldl (fun t x => t ++ f x) e0 := by
  conv => lhs; rw [<- Zz (v + 1) l, Zi, Vi8 h, Zi, Vng]
  rfl
 rw [e, Zm, Zm]; omega
def wpS (l : List DInline) (t : ByteArray) (g v : Nat) : St := sx 55 [(0, .ptr 1000 0), (1, jL (l.map Va1)), (7, jI ((lenM Va1 l : Nat) : Int)), (8, jI ((v : Nat) : Int))] [(1000, bldA t g)] (bldG g)
theorem wpl_to : ∀ (n : Nat) (l : List DInline) (t : ByteArray) (g : Nat), plP n l -> t.size + (plT n l).size <= 1073741824 ->
  CallTo Tryz.prog 37 [.ptr 1000 0, jL (l.map Va1)] [(1000, bldA t g)] (bldG g) Vad [(1000, bldA (t ++ plT n l) (g + plC n l))] (bldG (g + plC n l)) := by
 intro n
 induction n with
 | zero =>
  intro l t g h hz; rw [show l = [] from h, show t ++ plT 0 [] = t from Vpz t]; refine BEGb (fun _ : Unit => Vad) () Tryz.func37 (by kernel_rfl) (by simp) (by simp [bldG]) (by simp [OkSV, SV.keys]) (Vl8 t g g rfl) (by simp [OkSV, SV.keys, Vad]) (Vl8 _ _ _ rfl) rfl rfl ?_; refine gO (tn 3 z) ?_; refine uN (sx 55 [(0, .ptr 1000 0), (7, jI 0), (8, jI 0)] [(1000, bldA t g)] (bldG g)) 1 ?_; refine gO (tn 1 (kb (b := decide ((0 : Int) < (0 : Int))) (d := false) rfl z)) ?_; refine uO z ?_; refine ENb (by kernel_rfl) ?_ ?_
  ·intro p hp; simp only [Zd, Zb, or_false] at hp; subst hp; kernel_rfl
  ·intro p hp; simp only [bldG, Zd, Zb, or_false] at hp; subst hp; kernel_rfl
 | succ n ih =>
  intro l t g h hz
  have hlq := Vak Va1 l
  have hl := h.1; refine BEGb (fun _ : Unit => Vad) () Tryz.func37 (by kernel_rfl) (by simp) (by simp [bldG]) (by simp [OkSV, SV.keys]) (Vl8 t g g rfl) (by simp [OkSV, SV.keys, Vad]) (Vl8 _ _ _ rfl) rfl rfl ?_; refine gO (tn 3 z) ?_; refine LP (n := l.length + 1) (fun N M S => ∃ (v : Nat) (u : ByteArray) (k : Nat), v <= l.length /\ u = (l.take v).foldl (fun t x => t ++ if x.fKind = 1 then x.fText else plT n x.fKids) e0 /\ k = (l.take v).foldl (fun c x => c + if x.fKind = 1 then 1 else plC n x.fKids) 0 /\ l.length - v < N /\ M = () /\ S = wpS l (t ++ u) (g + k) v) (by kernel_rfl) ⟨0, e0, 0, by omega, rfl, rfl, by omega, rfl, rfl⟩ (by rw [show t ++ e0 = t from Vpz t]; exact WK (by kernel_rfl)) ?_; rintro n0 M S ⟨v, u, k, hv, hu, hk, hF0, rfl, rfl⟩; obtain ⟨n0, rfl⟩ : ∃ k, n0 = k + 1 := ⟨n0 - 1, by omega⟩
  by_cases h1 : v < l.length
  ·have hd : decide (((v : Nat) : Int) < ((lenM Va1 l : Nat) : Int)) = true := dT (by omega)
   have w2 := wrE (((v : Nat) : Int) + 1) ((v + 1 : Nat) : Int) (by omega)
   have hev := Vax l v h1
   have hsz := foldl_sz (f := fun x => if x.fKind = 1 then x.fText else plT n x.fKids) l v h1; rw [<- hu] at hsz
   have hsz2 : u.size + (if (el l v).fKind = 1 then (el l v).fText else plT n (el l v).fKids).size <= (plT (n + 1) l).size := hsz; rcases h.2 _ (Vf2 (l := l) (i := v) h1) with hk1 | ⟨hk1, hp⟩
   ·rw [if_pos hk1] at hsz2
    have hw := Vfp (t ++ u) (el l v).fText (g + k) (by rw [Zm]; omega); rw [Zt] at hw
    have hb1 : ((el l v).fKind == 1) = true := by rw [hk1]; rfl
    refine gO (tn 1 (kb hd (tn 4 (ke hev (tn 7 (kb hb1 (kb hb1 (tn 5 (kg hw (show g + k = g + k /\ True from ⟨rfl, trivial⟩) (kn w2 (tn 1 z))))))))))) ?_; exact AG (m := n0) ⟨v + 1, u ++ (el l v).fText, k + 1, by omega, by rw [Vi8 h1, Zi, <- hu]; simp only [Zn, Zw]; rw [if_pos hk1], by rw [Vi8 h1, Zi, <- hk]; simp only [Zn, Zw]; rw [if_pos hk1], by omega, rfl, rfl⟩ (WK (by kernel_rfl)) (by kernel_rfl) (Ze _)
   ·have hk0 : (el l v).fKind ≠ 1 := by rcases hk1 with e | e | e <;> (rw [e]; decide)
    rw [if_neg hk0] at hsz2
    have hw := ih (el l v).fKids (t ++ u) (g + k) hp (by rw [Zm]; omega); rw [Zt, Nat.add_assoc] at hw; rcases hk1 with e | e | e
    ·have n1 : ((el l v).fKind == 1) = false := by rw [e]; rfl
     have n4 : ((el l v).fKind == 4) = false := by rw [e]; rfl
     have n5 : ((el l v).fKind == 5) = false := by rw [e]; rfl
     have n2 : ((el l v).fKind == 2) = false := by rw [e]; rfl
     have n3 : ((el l v).fKind == 3) = false := by rw [e]; rfl
     have n6 : ((el l v).fKind == 6) = true := by rw [e]; rfl
     refine gO (tn 1 (kb hd (tn 4 (ke hev (tn 7 (kb n1 (tn 2 (kb n4 (tn 2 (kb n5 (tn 2 (kb n2 (tn 2 (kb n3 (tn 2 (kb n6 (kb n6 (tn 5 (kg hw (show g + k = g + k /\ True from ⟨rfl, trivial⟩) (kn w2 (tn 1 z))))))))))))))))))))) ?_; exact AG (m := n0) ⟨v + 1, u ++ plT n (el l v).fKids, k + plC n (el l v).fKids, by omega, by rw [Vi8 h1, Zi, <- hu]; simp only [Zn, Zw]; rw [if_neg hk0], by rw [Vi8 h1, Zi, <- hk]; simp only [Zn, Zw]; rw [if_neg hk0], by omega, rfl, rfl⟩ (WK (by kernel_rfl)) (by kernel_rfl) (Ze _)
    ·have n1 : ((el l v).fKind == 1) = false := by rw [e]; rfl
     have n4 : ((el l v).fKind == 4) = false := by rw [e]; rfl
     have n5 : ((el l v).fKind == 5) = false := by rw [e]; rfl
     have n2 : ((el l v).fKind == 2) = false := by rw [e]; rfl
     have n3 : ((el l v).fKind == 3) = false := by rw [e]; rfl
     have n6 : ((el l v).fKind == 6) = false := by rw [e]; rfl
     have n7 : ((el l v).fKind == 7) = false := by rw [e]; rfl
     have n8 : ((el l v).fKind == 8) = false := by rw [e]; rfl
     have n9 : ((el l v).fKind == 9) = true := by rw [e]; rfl
     refine gO (tn 1 (kb hd (tn 4 (ke hev (tn 7 (kb n1 (tn 2 (kb n4 (tn 2 (kb n5 (tn 2 (kb n2 (tn 2 (kb n3 (tn 2 (kb n6 (tn 2 (kb n7 (tn 2 (kb n8 (tn 2 (kb n9 (kb n9 (tn 5 (kg hw (show g + k = g + k /\ True from ⟨rfl, trivial⟩) (kn w2 (tn 1 z))))))))))))))))))))))))))) ?_; exact AG (m := n0) ⟨v + 1, u ++ plT n (el l v).fKids, k + plC n (el l v).fKids, by omega, by rw [Vi8 h1, Zi, <- hu]; simp only [Zn, Zw]; rw [if_neg hk0], by rw [Vi8 h1, Zi, <- hk]; simp only [Zn, Zw]; rw [if_neg hk0], by omega, rfl, rfl⟩ (WK (by kernel_rfl)) (by kernel_rfl) (Ze _)
    ·have n1 : ((el l v).fKind == 1) = false := by rw [e]; rfl
     have n4 : ((el l v).fKind == 4) = false := by rw [e]; rfl
     have n5 : ((el l v).fKind == 5) = false := by rw [e]; rfl
     have n2 : ((el l v).fKind == 2) = false := by rw [e]; rfl
     have n3 : ((el l v).fKind == 3) = false := by rw [e]; rfl
     have n6 : ((el l v).fKind == 6) = false := by rw [e]; rfl
     have n7 : ((el l v).fKind == 7) = false := by rw [e]; rfl
     have n8 : ((el l v).fKind == 8) = false := by rw [e]; rfl
     have n9 : ((el l v).fKind == 9) = false := by rw [e]; rfl
     have n10 : ((el l v).fKind == 10) = false := by rw [e]; rfl
     have n11 : ((el l v).fKind == 11) = true := by rw [e]; rfl
     refine gO (tn 1 (kb hd (tn 4 (ke hev (tn 7 (kb n1 (tn 2 (kb n4 (tn 2 (kb n5 (tn 2 (kb n2 (tn 2 (kb n3 (tn 2 (kb n6 (tn 2 (kb n7 (tn 2 (kb n8 (tn 2 (kb n9 (tn 2 (kb n10 (tn 2 (kb n11 (tn 5 (kg hw (show g + k = g + k /\ True from ⟨rfl, trivial⟩) (kn w2 (tn 1 z)))))))))))))))))))))))))))))) ?_; exact AG (m := n0) ⟨v + 1, u ++ plT n (el l v).fKids, k + plC n (el l v).fKids, by omega, by rw [Vi8 h1, Zi, <- hu]; simp only [Zn, Zw]; rw [if_neg hk0], by rw [Vi8 h1, Zi, <- hk]; simp only [Zn, Zw]; rw [if_neg hk0], by omega, rfl, rfl⟩ (WK (by kernel_rfl)) (by kernel_rfl) (Ze _)
  ·have hd : decide (((v : Nat) : Int) < ((lenM Va1 l : Nat) : Int)) = false := dF (by omega)
   have hvl : v = l.length := by omega
   subst hvl; rw [Z5] at hu hk
   have hu2 : u = plT (n + 1) l := hu
   have hk2 : k = plC (n + 1) l := hk; rw [<- hu2, <- hk2]; refine gO (tn 1 (kb hd z)) ?_; refine OUT z (by kernel_rfl) ?_; refine ENb (by kernel_rfl) ?_ ?_
   ·intro p hp; simp only [Zd, Zb, or_false] at hp; subst hp; kernel_rfl
   ·intro p hp; simp only [bldG, Zd, Zb, or_false] at hp; subst hp; kernel_rfl
theorem plain_to (n : Nat) (l : List DInline) (h : plP n l) (h0 : 0 < (plT n l).size) (hz : (plT n l).size <= 1073741824) : CallTo Tryz.prog 17 [jL (l.map Va1)] [] [] (jS (plT n l)) [] [] := by
 have hw0 := wpl_to n l e0 0 h (by show 0 + _ <= _; omega); rw [show e0 ++ plT n l = plT n l from nil_ba _, Zx] at hw0
 have hw : CallTo Tryz.prog 37 [.ptr 3 0, jL (l.map Va1)] [(3, .cells 80 [.son 3, .own KBx 0 1 (Va2 e0)])] [(KBx, 0)] Vad [(3, .cells 80 [.son 3, .own KBx (plC n l) 1 (Va2 (plT n l))])] [(KBx, plC n l)] := Vc6 (by kernel_rfl) (Va3 (Vab (3, 0) (1000, 0) rfl) hw0)
 have hst0 := Vgs (.son 1000) 1300 (plC n l) (plT n l) h0 (by omega)
 have hst : CallTo Tryz.prog 38 [.ptr 3 0] [(3, .cells 80 [.son 3, .own KBx (plC n l) 1 (Va2 (plT n l))])] [(KBx, plC n l)] (.av (.val (.string (plT n l)))) [(3, .cells 80 [.son 3, .av (.sl (Va2 (plT n l)))])] [(KBx, plC n l + 1)] := Vc6 (by kernel_rfl) (Va3 (Vab (3, 0) (1000, 0) rfl) hst0); refine bG Tryz.func17 ?_; refine gO (tn 2 (kq 2 z)) ?_; refine RT [(3, 0, .son 3), (3, 1, .own KBx 0 1 (Va2 e0))] (ac (show (AV.val (.pointer none)) = .val (.pointer none) from rfl) (ac (show (Va2 e0 : List AV) = [] /\ 0 < 6 /\ (0 : Nat) = 0 from ⟨rfl, by decide, rfl⟩) an)) (by kernel_rfl) ?_; refine gO (tn 1 (kg hw (show (0 : Nat) = 0 /\ True from ⟨rfl, trivial⟩) (kg hst (show plC n l = plC n l /\ True from ⟨rfl, trivial⟩) (tn 1 z)))) ?_; exact eN
end Go.Proofs.YthbpjmogdonlkaaGreatDoor
