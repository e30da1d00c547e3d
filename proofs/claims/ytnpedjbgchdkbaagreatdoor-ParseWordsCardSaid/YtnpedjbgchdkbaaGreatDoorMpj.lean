/- Texts joined by a program (merge.py). -/
import Derived.Shelf.Strconv.Atoi
import Derived.Test.YtnpedjbgchdkbaaGreatDoorMpe
import Derived.Test.YtnpedjbgchdkbaaGreatDoorProg
import Derived.Test.YtnpedjbgchdkbaaGreatDoorMph
import Derived.Test.YtnpedjbgchdkbaaGreatDoorMpi
import Derived.Lib.Builder
import Derived.Lib.UnsafeStr
import Derived.Lib.AppendStr
import Derived.WalkKit
import Derived.Laws.Externs
import Derived.RegionTactic
import Derived.KernelRfl
set_option linter.unusedSimpArgs false
set_option linter.unusedVariables false
set_option maxRecDepth 100000
set_option maxHeartbeats 4000000
namespace Go.Proofs.YtnpedjbgchdkbaaGreatDoor
open Go Go.RowKit
theorem bsize : (Tryz.prog.info? 67).map (·.size) = some 2 := by kernel_rfl
theorem bcell : Tryz.prog.cellsOf 67 = 2 := by kernel_rfl
theorem bdepth : ∃ d, Tryz.prog.depth = d + 1 := ⟨Tryz.prog.depth - 1, by kernel_rfl⟩
theorem blies (N : Nat) (h : 2 <= N) : liesAt Tryz.prog Tryz.prog.depth 67 (N / Tryz.prog.cellsOf 67) 0 67 1 = true := by
 obtain ⟨d, hd⟩ := bdepth; rw [hd, liesAt, Bool.or_eq_true]; left; rw [hd, rowAt]; simp only [bcell]; rw [if_neg (by decide), Bool.or_eq_true]; left
 have hs : sameLayout Tryz.prog (d + 1) 67 67 = true := by
  rw [sameLayout, Bool.or_eq_true]; left; exact beq_self_eq_true _
 simp [hs]; omega
theorem bcells : Tryz.prog.cellsOf 5 = 1 := by kernel_rfl
set_option maxHeartbeats 1000000 in
theorem Vlu (b : Nat) (w : World) (h0 : w.cell? ⟨b, 0, none⟩ = some (.pointer (some ⟨b, 0, none⟩))) :
  Calls Tryz.prog 37 #[.pointer (some ⟨b, 0, none⟩)] w fun e w' => e = .returned (.tuple #[]) /\ w' = w := by
 obtain ⟨j, hj, _⟩ := Option.map_eq_some_iff.1 bsize
 go_enter Tryz.func37, Tryz.ntmps37
 go_wp2
 rw [Lib.run_neq_ptr_same w _ Tryz.underlying65 hj]
 go_wp2
 go_end0
 exact ⟨rfl, rfl⟩
set_option maxHeartbeats 1000000 in
theorem Vko (b N : Nat) (w : World) (hN : 2 <= N) (h0 : w.cell? ⟨b, 0, none⟩ = some (.pointer none)) (hsh : w.shape? b = some (67, N)) (hfz : w.frozen? ⟨b, 0, none⟩ = false) :
  Calls Tryz.prog 37 #[.pointer (some ⟨b, 0, none⟩)] w fun e w' => e = .returned (.tuple #[]) /\ w' = w.setCell ⟨b, 0, none⟩ (.pointer (some ⟨b, 0, none⟩)) := by
 obtain ⟨j, hj, hjs⟩ := Option.map_eq_some_iff.1 bsize
 go_enter Tryz.func37, Tryz.ntmps37
 go_wp2
 rw [Lib.run_to_unsafe w ⟨b, 0, none⟩ Tryz.underlying65 Tryz.underlying120 hj (by rw [hjs]; decide) hsh (show 0 < N by omega)]; simp only [Result.andThen]; rw [Oper.upon_value]
 go_wp2
 rw [run_callFunc_extern Tryz.func61 (by kernel_rfl) (by kernel_rfl) (by kernel_rfl) (e := Extern.AbiNoEscape.same) (by kernel_rfl)]; rw [Lib.run_noEscape]; simp only [Result.andThen]; rw [Oper.upon_value]
 go_wp2
 rw [Lib.run_from_unsafe w ⟨b, 0, none⟩ Tryz.underlying120 Tryz.underlying65 hj hsh (blies N hN)]; simp only [Result.andThen]; rw [Oper.upon_value]
 go_wp2
 go_end0
 exact ⟨rfl, rfl⟩
set_option maxHeartbeats 1000000 in
theorem String_nil (b o : Nat) (w : World) (h0 : w.cell? ⟨b, o + 1, none⟩ = some (.slice none 0 0)) :
  Calls Tryz.prog 26 #[.pointer (some ⟨b, o, none⟩)] w fun e w' => e = .returned (.string .empty) /\ w'.heap = w.heap /\ w'.os = w.os /\ w'.tape = w.tape /\ w'.output = w.output := by
 have c1 : w.drew.cell? ⟨b, o + 1, none⟩ = some (.slice none 0 0) := h0
 have hSD : (Builtin.unsafeSliceData_ #[25] 91 #[.slice none 0 0]).run Tryz.prog w.drew = .ok (.pointer none) w.drew := rfl
 have hUS : (Builtin.unsafeString_ #[91, 3] 9 #[.pointer none, .int .i64 0]).run Tryz.prog w.drew = .ok (.string .empty) w.drew := by rfl
 go_enter Tryz.func26, Tryz.ntmps26
 go_wp2
 go_region
 all_goals (go_wp2; go_ret; exact ⟨rfl, rfl, rfl, rfl, rfl⟩)
set_option maxHeartbeats 1000000 in
theorem String_full (b o : Nat) (g cap : Nat) (cur : Array Value) (fz : Nat × Nat) (l : List UInt8) (w : World) (h0 : l ≠ []) (hcap : l.length <= cap) (hcs : l.length <= cur.size) (h63 : l.length <= 9223372036854775807)
  (hb : w.cell? ⟨b, o + 1, none⟩ = some (.slice (some ⟨g, 0, none⟩) l.length cap)) (hg : w.heap[g]? = some (.cells cur 5 fz)) (hcell : ∀ j x, l[j]? = some x -> w.cell? ⟨g, j, none⟩ = some (.int .u8 x.toNat)) :
  Calls Tryz.prog 26 #[.pointer (some ⟨b, o, none⟩)] w fun e w' => e = .returned (.string ⟨l.toArray⟩) /\ w'.heap = (w.freeze ⟨g, 0, none⟩ l.length).heap /\ w'.os = w.os /\ w'.tape = w.tape /\ w'.output = w.output := by
 have hl0 : l.length ≠ 0 := by simpa using h0
 have c1 : w.drew.cell? ⟨b, o + 1, none⟩ = some (.slice (some ⟨g, 0, none⟩) l.length cap) := hb
 have hSD : (Builtin.unsafeSliceData_ #[25] 91 #[.slice (some ⟨g, 0, none⟩) l.length cap]).run Tryz.prog w.drew = .ok (.pointer (some ⟨g, 0, none⟩)) w.drew :=
  Lib.run_unsafeSliceData_row _ _ _ _ _ _ (by omega)
 have hUS : (Builtin.unsafeString_ #[91, 3] 9 #[.pointer (some ⟨g, 0, none⟩), .int .i64 l.length]).run Tryz.prog w.drew = .ok (.string ⟨l.toArray⟩) (w.drew.freeze ⟨g, 0, none⟩ l.length) := by
  refine Lib.run_unsafeString_row w.drew 91 3 9 5 Tryz.underlying91 bcells g cur.size (by have hg' : w.drew.heap[g]? = some (.cells cur 5 fz) := hg; simp [World.shape?, hg']) l h0 hcs h63 ?_; intro j x hx; rw [Eng.addr_add, Nat.zero_add]; exact hcell j x hx
 clear hb hg hcell hcs hcap
 go_enter Tryz.func26, Tryz.ntmps26
 go_wp2
 go_region
 all_goals (go_wp2; go_ret; refine ⟨rfl, ?_⟩; unfold World.freeze; rw [if_neg hl0, if_neg hl0]; exact ⟨rfl, rfl, rfl, rfl⟩)
theorem checkRuns : CE.CheckRuns Tryz.prog 37 := ⟨⟨_, Tryz.func37, by kernel_rfl, by kernel_rfl⟩, Vlu, Vko⟩
theorem stringRuns : CE.StringRuns Tryz.prog 26 := ⟨⟨_, Tryz.func26, by kernel_rfl, by kernel_rfl⟩, String_nil, String_full⟩
theorem countOk : CE.LibOk Tryz.prog 267 CE.libCount := CE.lib_count (fun args w => run_callFunc_extern Tryz.func267 (by kernel_rfl) (by kernel_rfl) (by kernel_rfl) (e := Extern.BytealgCount.count) (by kernel_rfl) args w)
theorem indexOk : CE.LibOk Tryz.prog 41 CE.libIndexByte := CE.lib_index (fun args w => run_callFunc_extern Tryz.func41 (by kernel_rfl) (by kernel_rfl) (by kernel_rfl) (e := Extern.BytealgIndexByte.indexByte) (by kernel_rfl) args w)
theorem checkOk : CE.LibOk Tryz.prog 37 CE.libCheck := CE.lib_check checkRuns
theorem stringOk : CE.LibOk Tryz.prog 26 CE.libString := CE.lib_string stringRuns
theorem atoiOk : CE.LibOk Tryz.prog 122 CE.libAtoi := CE.lib_atoi ⟨⟨Tryz.f122, Tryz.func122, by kernel_rfl, by kernel_rfl⟩, fun s n hs h w => (Any.strconv_Atoi Tryz.lays172 s n hs h w).mono fun e w' ⟨he, t, hw⟩ => ⟨he, _, t, hw⟩⟩
end Go.Proofs.YtnpedjbgchdkbaaGreatDoor
