/- Part of a proof: TT -/
import Derived.Test.YtejicbppanhbjaaCells
import Derived.Test.YtejicbppanhbjaaProg
namespace Go.Sep.Walks
set_option linter.unusedVariables false
set_option linter.unusedSimpArgs false
open Go Go.Proofs
theorem t2 : ti Try.prog 2 = some ⟨.int .i64, 1, 8, [.int .i64 0], false⟩ := by kernel_rfl
theorem t3 : ti Try.prog 3 = some ⟨.int .i64, 1, 8, [.int .i64 0], false⟩ := by kernel_rfl
theorem t4 : ti Try.prog 4 = some ⟨.bool, 1, 1, [.bool false], false⟩ := by kernel_rfl
theorem t5 : ti Try.prog 5 = some ⟨.int .u8, 1, 1, [.int .u8 0], false⟩ := by kernel_rfl
theorem t6 : ti Try.prog 6 = some ⟨.int .u8, 1, 1, [.int .u8 0], false⟩ := by kernel_rfl
theorem t7 : ti Try.prog 7 = some ⟨.struct [(0, 2), (1, 3), (2, 4), (3, 6)], 4, 24, [.int .i64 0, .int .i64 0, .bool false, .int .u8 0], false⟩ := by kernel_rfl
theorem t8 : ti Try.prog 8 = some ⟨.struct [(0, 2), (1, 3), (2, 4), (3, 6)], 4, 24, [.int .i64 0, .int .i64 0, .bool false, .int .u8 0], false⟩ := by kernel_rfl
theorem t12 : ti Try.prog 12 = some ⟨.int .u64, 1, 8, [.int .u64 0], false⟩ := by kernel_rfl
theorem t18 : ti Try.prog 18 = some ⟨.struct [(0, 17)], 1, 8, [.pointer none], false⟩ := by kernel_rfl
theorem t19 : ti Try.prog 19 = some ⟨.struct [(0, 17)], 1, 8, [.pointer none], false⟩ := by kernel_rfl
theorem t21 : ti Try.prog 21 = some ⟨.int .i32, 1, 4, [.int .i32 0], false⟩ := by kernel_rfl
theorem t22 : ti Try.prog 22 = some ⟨.slice 72, 1, 24, [.slice none 0 0], false⟩ := by kernel_rfl
theorem t23 : ti Try.prog 23 = some ⟨.struct [(0, 3), (1, 3), (2, 3), (3, 22)], 4, 48, [.int .i64 0, .int .i64 0, .int .i64 0, .slice none 0 0], false⟩ := by kernel_rfl
theorem t24 : ti Try.prog 24 = some ⟨.struct [(0, 3), (1, 3), (2, 3), (3, 22)], 4, 48, [.int .i64 0, .int .i64 0, .int .i64 0, .slice none 0 0], false⟩ := by kernel_rfl
theorem t28 : ti Try.prog 28 = some ⟨.struct [(0, 3), (1, 3), (2, 3), (3, 22)], 4, 48, [.int .i64 0, .int .i64 0, .int .i64 0, .slice none 0 0], false⟩ := by kernel_rfl
theorem t32 : ti Try.prog 32 = some ⟨.slice 3, 1, 24, [.slice none 0 0], false⟩ := by kernel_rfl
theorem t33 : ti Try.prog 33 = some ⟨.struct [(0, 3), (1, 3), (2, 3), (3, 32), (4, 32), (5, 32)], 6, 96, [.int .i64 0, .int .i64 0, .int .i64 0, .slice none 0 0, .slice none 0 0, .slice none 0 0], false⟩ := by kernel_rfl
theorem t34 : ti Try.prog 34 = some ⟨.struct [(0, 3), (1, 3), (2, 3), (3, 32), (4, 32), (5, 32)], 6, 96, [.int .i64 0, .int .i64 0, .int .i64 0, .slice none 0 0, .slice none 0 0, .slice none 0 0], false⟩ := by kernel_rfl
theorem t38 : ti Try.prog 38 = some ⟨.struct [(0, 3), (1, 3), (2, 3), (3, 32), (4, 32), (5, 32)], 6, 96, [.int .i64 0, .int .i64 0, .int .i64 0, .slice none 0 0, .slice none 0 0, .slice none 0 0], false⟩ := by kernel_rfl
theorem t58 : ti Try.prog 58 = some ⟨.slice 32, 1, 24, [.slice none 0 0], false⟩ := by kernel_rfl
theorem t63 : ti Try.prog 63 = some ⟨.slice 115, 1, 24, [.slice none 0 0], false⟩ := by kernel_rfl
theorem t72 : ti Try.prog 72 = some ⟨.array 3 3, 3, 24, [.int .i64 0, .int .i64 0, .int .i64 0], false⟩ := by kernel_rfl
theorem t73 : ti Try.prog 73 = some ⟨.int .u64, 1, 8, [.int .u64 0], false⟩ := by kernel_rfl
theorem t74 : ti Try.prog 74 = some ⟨.int .u64, 1, 8, [.int .u64 0], false⟩ := by kernel_rfl
theorem t75 : ti Try.prog 75 = some ⟨.array 3 3, 3, 24, [.int .i64 0, .int .i64 0, .int .i64 0], false⟩ := by kernel_rfl
theorem t107 : ti Try.prog 107 = some ⟨.struct [(0, 32), (1, 3)], 2, 32, [.slice none 0 0, .int .i64 0], false⟩ := by kernel_rfl
theorem t108 : ti Try.prog 108 = some ⟨.struct [(0, 32), (1, 3)], 2, 32, [.slice none 0 0, .int .i64 0], false⟩ := by kernel_rfl
theorem t115 : ti Try.prog 115 = some ⟨.array 5 3, 5, 40, [.int .i64 0, .int .i64 0, .int .i64 0, .int .i64 0, .int .i64 0], false⟩ := by kernel_rfl
theorem t121 : ti Try.prog 121 = some ⟨.array 2 3, 2, 16, [.int .i64 0, .int .i64 0], false⟩ := by kernel_rfl
theorem t137 : ti Try.prog 137 = some ⟨.array 3 32, 3, 72, [.slice none 0 0, .slice none 0 0, .slice none 0 0], false⟩ := by kernel_rfl
theorem t142 : ti Try.prog 142 = some ⟨.int .u64, 1, 8, [.int .u64 0], false⟩ := by kernel_rfl
theorem t143 : ti Try.prog 143 = some ⟨.array 4 72, 12, 96, [.int .i64 0, .int .i64 0, .int .i64 0, .int .i64 0, .int .i64 0, .int .i64 0, .int .i64 0, .int .i64 0, .int .i64 0, .int .i64 0, .int .i64 0, .int .i64 0], false⟩ := by kernel_rfl
theorem t150 : ti Try.prog 150 = some ⟨.array 0 16, 0, 0, [], false⟩ := by kernel_rfl
theorem t151 : ti Try.prog 151 = some ⟨.struct [(0, 150)], 0, 0, [], false⟩ := by kernel_rfl
theorem t152 : ti Try.prog 152 = some ⟨.struct [(0, 150)], 0, 0, [], false⟩ := by kernel_rfl
theorem t153 : ti Try.prog 153 = some ⟨.int .u32, 1, 4, [.int .u32 0], false⟩ := by kernel_rfl
theorem t154 : ti Try.prog 154 = some ⟨.int .u8, 1, 1, [.int .u8 0], false⟩ := by kernel_rfl
theorem t155 : ti Try.prog 155 = some ⟨.int .u8, 1, 1, [.int .u8 0], false⟩ := by kernel_rfl
theorem t158 : ti Try.prog 158 = some ⟨.int .i32, 1, 4, [.int .i32 0], false⟩ := by kernel_rfl
theorem t159 : ti Try.prog 159 = some ⟨.int .i32, 1, 4, [.int .i32 0], false⟩ := by kernel_rfl
theorem t160 : ti Try.prog 160 = some ⟨.struct [(0, 12), (1, 12), (2, 153), (3, 154), (4, 5), (5, 5), (6, 155), (7, 156), (8, 157), (9, 158), (10, 159)], 11, 48, [.int .u64 0, .int .u64 0, .int .u32 0, .int .u8 0, .int .u8 0, .int .u8 0, .int .u8 0, .nilFunc, .pointer none, .int .i32 0, .int .i32 0], false⟩ := by kernel_rfl
theorem t161 : ti Try.prog 161 = some ⟨.struct [(0, 12), (1, 12), (2, 153), (3, 154), (4, 5), (5, 5), (6, 155), (7, 156), (8, 157), (9, 158), (10, 159)], 11, 48, [.int .u64 0, .int .u64 0, .int .u32 0, .int .u8 0, .int .u8 0, .int .u8 0, .int .u8 0, .nilFunc, .pointer none, .int .i32 0, .int .i32 0], false⟩ := by kernel_rfl
end Go.Sep.Walks
