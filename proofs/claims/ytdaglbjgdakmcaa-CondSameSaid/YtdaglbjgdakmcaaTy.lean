/- What the engine asks of the types of this translation; written by a program (gentypes.py). -/
import Derived.Test.YtdaglbjgdakmcaaProg
import Derived.Test.YtdaglbjgdakmcaaEngL
import Derived.KernelRfl
namespace Go.Proofs.Ytdaglbjgdakmcaa
open Go.Eng
theorem ty_info2 : tInfo Try.prog 2 = some (1, 8, some (.int .i64 0)) := by kernel_rfl
theorem ty_agg2 : tAgg Try.prog 2 = some false := by kernel_rfl
theorem ty_info3 : tInfo Try.prog 3 = some (1, 8, some (.int .i64 0)) := by kernel_rfl
theorem ty_agg3 : tAgg Try.prog 3 = some false := by kernel_rfl
theorem ty_info4 : tInfo Try.prog 4 = some (1, 1, some (.bool false)) := by kernel_rfl
theorem ty_agg4 : tAgg Try.prog 4 = some false := by kernel_rfl
theorem ty_info5 : tInfo Try.prog 5 = some (1, 1, some (.int .u8 0)) := by kernel_rfl
theorem ty_agg5 : tAgg Try.prog 5 = some false := by kernel_rfl
theorem ty_info7 : tInfo Try.prog 7 = some (4, 24, some (.agg #[.int .i64 0, .int .i64 0, .bool false, .int .u8 0])) := by kernel_rfl
theorem ty_agg7 : tAgg Try.prog 7 = some true := by kernel_rfl
theorem ty_field7_0 : tField Try.prog 7 0 = some (0, 2) := by kernel_rfl
theorem ty_field7_1 : tField Try.prog 7 1 = some (1, 3) := by kernel_rfl
theorem ty_field7_2 : tField Try.prog 7 2 = some (2, 4) := by kernel_rfl
theorem ty_field7_3 : tField Try.prog 7 3 = some (3, 6) := by kernel_rfl
theorem ty_places7 : tPlaces Try.prog 7 = some [(0, 1), (1, 1), (2, 1), (3, 1)] := by kernel_rfl
theorem ty_info9 : tInfo Try.prog 9 = some (1, 16, some (.string ⟨#[]⟩)) := by kernel_rfl
theorem ty_agg9 : tAgg Try.prog 9 = some false := by kernel_rfl
theorem ty_str9 : tStr Try.prog 9 = true := by kernel_rfl
theorem ty_notInt9 : notInt Try.prog 9 = true := by kernel_rfl
theorem ty_info12 : tInfo Try.prog 12 = some (1, 8, some (.int .u64 0)) := by kernel_rfl
theorem ty_agg12 : tAgg Try.prog 12 = some false := by kernel_rfl
theorem ty_info13 : tInfo Try.prog 13 = some (2, 24, some (.agg #[.string ⟨#[]⟩, .int .u64 0])) := by kernel_rfl
theorem ty_agg13 : tAgg Try.prog 13 = some true := by kernel_rfl
theorem ty_field13_0 : tField Try.prog 13 0 = some (0, 9) := by kernel_rfl
theorem ty_field13_1 : tField Try.prog 13 1 = some (1, 12) := by kernel_rfl
theorem ty_places13 : tPlaces Try.prog 13 = some [(0, 1), (1, 1)] := by kernel_rfl
theorem ty_info15 : tInfo Try.prog 15 = some (1, 8, some (.pointer none)) := by kernel_rfl
theorem ty_agg15 : tAgg Try.prog 15 = some false := by kernel_rfl
theorem ty_info16 : tInfo Try.prog 16 = some (1, 8, some (.pointer none)) := by kernel_rfl
theorem ty_agg16 : tAgg Try.prog 16 = some false := by kernel_rfl
theorem ty_info21 : tInfo Try.prog 21 = some (1, 4, some (.int .i32 0)) := by kernel_rfl
theorem ty_agg21 : tAgg Try.prog 21 = some false := by kernel_rfl
theorem ty_info22 : tInfo Try.prog 22 = some (1, 24, some (.slice none 0 0)) := by kernel_rfl
theorem ty_agg22 : tAgg Try.prog 22 = some false := by kernel_rfl
theorem ty_elem22 : tElem Try.prog 22 = some 9 := by kernel_rfl
theorem ty_slice22 : tSlice Try.prog 22 = true := by kernel_rfl
theorem ty_notInt22 : notInt Try.prog 22 = true := by kernel_rfl
theorem ty_info25 : tInfo Try.prog 25 = some (1, 8, some (.int .i64 0)) := by kernel_rfl
theorem ty_agg25 : tAgg Try.prog 25 = some false := by kernel_rfl
theorem ty_info34 : tInfo Try.prog 34 = some (1, 24, some (.slice none 0 0)) := by kernel_rfl
theorem ty_agg34 : tAgg Try.prog 34 = some false := by kernel_rfl
theorem ty_elem34 : tElem Try.prog 34 = some 36 := by kernel_rfl
theorem ty_slice34 : tSlice Try.prog 34 = true := by kernel_rfl
theorem ty_notInt34 : notInt Try.prog 34 = true := by kernel_rfl
theorem ty_info35 : tInfo Try.prog 35 = some (3, 48, some (.agg #[.int .i64 0, .string ⟨#[]⟩, .slice none 0 0])) := by kernel_rfl
theorem ty_agg35 : tAgg Try.prog 35 = some true := by kernel_rfl
theorem ty_field35_0 : tField Try.prog 35 0 = some (0, 3) := by kernel_rfl
theorem ty_field35_1 : tField Try.prog 35 1 = some (1, 9) := by kernel_rfl
theorem ty_field35_2 : tField Try.prog 35 2 = some (2, 34) := by kernel_rfl
theorem ty_places35 : tPlaces Try.prog 35 = some [(0, 1), (1, 1), (2, 1)] := by kernel_rfl
theorem ty_info36 : tInfo Try.prog 36 = some (3, 48, some (.agg #[.int .i64 0, .string ⟨#[]⟩, .slice none 0 0])) := by kernel_rfl
theorem ty_agg36 : tAgg Try.prog 36 = some true := by kernel_rfl
theorem ty_field36_0 : tField Try.prog 36 0 = some (0, 3) := by kernel_rfl
theorem ty_field36_1 : tField Try.prog 36 1 = some (1, 9) := by kernel_rfl
theorem ty_field36_2 : tField Try.prog 36 2 = some (2, 34) := by kernel_rfl
theorem ty_places36 : tPlaces Try.prog 36 = some [(0, 1), (1, 1), (2, 1)] := by kernel_rfl
theorem ty_info40 : tInfo Try.prog 40 = some (1, 8, some (.map none)) := by kernel_rfl
theorem ty_agg40 : tAgg Try.prog 40 = some false := by kernel_rfl
theorem ty_map40 : tMap Try.prog 40 = some (9, 4) := by kernel_rfl
theorem ty_info42 : tInfo Try.prog 42 = some (1, 24, some (.slice none 0 0)) := by kernel_rfl
theorem ty_agg42 : tAgg Try.prog 42 = some false := by kernel_rfl
theorem ty_elem42 : tElem Try.prog 42 = some 44 := by kernel_rfl
theorem ty_slice42 : tSlice Try.prog 42 = true := by kernel_rfl
theorem ty_notInt42 : notInt Try.prog 42 = true := by kernel_rfl
theorem ty_info43 : tInfo Try.prog 43 = some (3, 48, some (.agg #[.int .i64 0, .string ⟨#[]⟩, .slice none 0 0])) := by kernel_rfl
theorem ty_agg43 : tAgg Try.prog 43 = some true := by kernel_rfl
theorem ty_field43_0 : tField Try.prog 43 0 = some (0, 3) := by kernel_rfl
theorem ty_field43_1 : tField Try.prog 43 1 = some (1, 9) := by kernel_rfl
theorem ty_field43_2 : tField Try.prog 43 2 = some (2, 42) := by kernel_rfl
theorem ty_places43 : tPlaces Try.prog 43 = some [(0, 1), (1, 1), (2, 1)] := by kernel_rfl
theorem ty_info44 : tInfo Try.prog 44 = some (3, 48, some (.agg #[.int .i64 0, .string ⟨#[]⟩, .slice none 0 0])) := by kernel_rfl
theorem ty_agg44 : tAgg Try.prog 44 = some true := by kernel_rfl
theorem ty_field44_0 : tField Try.prog 44 0 = some (0, 3) := by kernel_rfl
theorem ty_field44_1 : tField Try.prog 44 1 = some (1, 9) := by kernel_rfl
theorem ty_field44_2 : tField Try.prog 44 2 = some (2, 42) := by kernel_rfl
theorem ty_places44 : tPlaces Try.prog 44 = some [(0, 1), (1, 1), (2, 1)] := by kernel_rfl
theorem ty_info50 : tInfo Try.prog 50 = some (1, 8, some (.pointer none)) := by kernel_rfl
theorem ty_agg50 : tAgg Try.prog 50 = some false := by kernel_rfl
theorem ty_info51 : tInfo Try.prog 51 = some (1, 24, some (.slice none 0 0)) := by kernel_rfl
theorem ty_agg51 : tAgg Try.prog 51 = some false := by kernel_rfl
theorem ty_elem51 : tElem Try.prog 51 = some 5 := by kernel_rfl
theorem ty_slice51 : tSlice Try.prog 51 = true := by kernel_rfl
theorem ty_notInt51 : notInt Try.prog 51 = true := by kernel_rfl
theorem ty_info52 : tInfo Try.prog 52 = some (2, 32, some (.agg #[.pointer none, .slice none 0 0])) := by kernel_rfl
theorem ty_agg52 : tAgg Try.prog 52 = some true := by kernel_rfl
theorem ty_field52_0 : tField Try.prog 52 0 = some (0, 50) := by kernel_rfl
theorem ty_field52_1 : tField Try.prog 52 1 = some (1, 51) := by kernel_rfl
theorem ty_places52 : tPlaces Try.prog 52 = some [(0, 1), (1, 1)] := by kernel_rfl
theorem ty_info53 : tInfo Try.prog 53 = some (2, 32, some (.agg #[.pointer none, .slice none 0 0])) := by kernel_rfl
theorem ty_agg53 : tAgg Try.prog 53 = some true := by kernel_rfl
theorem ty_field53_0 : tField Try.prog 53 0 = some (0, 50) := by kernel_rfl
theorem ty_field53_1 : tField Try.prog 53 1 = some (1, 51) := by kernel_rfl
theorem ty_places53 : tPlaces Try.prog 53 = some [(0, 1), (1, 1)] := by kernel_rfl
theorem ty_info57 : tInfo Try.prog 57 = some (3, 40, some (.agg #[.slice none 0 0, .int .i64 0, .int .i64 0])) := by kernel_rfl
theorem ty_agg57 : tAgg Try.prog 57 = some true := by kernel_rfl
theorem ty_field57_0 : tField Try.prog 57 0 = some (0, 22) := by kernel_rfl
theorem ty_field57_1 : tField Try.prog 57 1 = some (1, 3) := by kernel_rfl
theorem ty_field57_2 : tField Try.prog 57 2 = some (2, 3) := by kernel_rfl
theorem ty_places57 : tPlaces Try.prog 57 = some [(0, 1), (1, 1), (2, 1)] := by kernel_rfl
theorem ty_info58 : tInfo Try.prog 58 = some (3, 40, some (.agg #[.slice none 0 0, .int .i64 0, .int .i64 0])) := by kernel_rfl
theorem ty_agg58 : tAgg Try.prog 58 = some true := by kernel_rfl
theorem ty_field58_0 : tField Try.prog 58 0 = some (0, 22) := by kernel_rfl
theorem ty_field58_1 : tField Try.prog 58 1 = some (1, 3) := by kernel_rfl
theorem ty_field58_2 : tField Try.prog 58 2 = some (2, 3) := by kernel_rfl
theorem ty_places58 : tPlaces Try.prog 58 = some [(0, 1), (1, 1), (2, 1)] := by kernel_rfl
theorem ty_info68 : tInfo Try.prog 68 = some (1, 8, some (.pointer none)) := by kernel_rfl
theorem ty_agg68 : tAgg Try.prog 68 = some false := by kernel_rfl
theorem ty_info71 : tInfo Try.prog 71 = some (1, 8, some (.pointer none)) := by kernel_rfl
theorem ty_agg71 : tAgg Try.prog 71 = some false := by kernel_rfl
theorem ty_info75 : tInfo Try.prog 75 = some (1, 8, some (.pointer none)) := by kernel_rfl
theorem ty_agg75 : tAgg Try.prog 75 = some false := by kernel_rfl
theorem ty_info79 : tInfo Try.prog 79 = some (0, 0, some (.agg #[])) := by kernel_rfl
theorem ty_agg79 : tAgg Try.prog 79 = some true := by kernel_rfl
theorem ty_info80 : tInfo Try.prog 80 = some (0, 0, some (.agg #[])) := by kernel_rfl
theorem ty_agg80 : tAgg Try.prog 80 = some true := by kernel_rfl
theorem ty_field80_0 : tField Try.prog 80 0 = some (0, 79) := by kernel_rfl
theorem ty_places80 : tPlaces Try.prog 80 = some [(0, 0)] := by kernel_rfl
theorem ty_info83 : tInfo Try.prog 83 = some (1, 4, some (.int .u32 0)) := by kernel_rfl
theorem ty_agg83 : tAgg Try.prog 83 = some false := by kernel_rfl
end Go.Proofs.Ytdaglbjgdakmcaa
