/- Part of a proof: TT -/
import Derived.Test.YtkcpcaedoldcjaaCells
import Derived.Test.YtkcpcaedoldcjaaProg
namespace Go.Sep.Walks
set_option linter.unusedVariables false
set_option linter.unusedSimpArgs false
open Go Go.Proofs
theorem t2 : ti Try.prog 2 = some ⟨.int .i64, 1, 8, [.int .i64 0], false⟩ := by kernel_rfl
theorem t3 : ti Try.prog 3 = some ⟨.int .i64, 1, 8, [.int .i64 0], false⟩ := by kernel_rfl
theorem t4 : ti Try.prog 4 = some ⟨.bool, 1, 1, [.bool false], false⟩ := by kernel_rfl
theorem t5 : ti Try.prog 5 = some ⟨.int .u8, 1, 1, [.int .u8 0], false⟩ := by kernel_rfl
theorem t6 : ti Try.prog 6 = some ⟨.int .u8, 1, 1, [.int .u8 0], false⟩ := by kernel_rfl
theorem t7 : ti Try.prog 7 = some ⟨.struct [(0, 2), (1, 3), (2, 4), (3, 6)], 4, 24, [.int .i64 0, .int .i64 0, .bool false, .int .u8 0], false⟩ := by kernel_rfl
theorem t8 : ti Try.prog 8 = some ⟨.struct [(0, 2), (1, 3), (2, 4), (3, 6)], 4, 24, [.int .i64 0, .int .i64 0, .bool false, .int .u8 0], false⟩ := by kernel_rfl
theorem t12 : ti Try.prog 12 = some ⟨.int .u64, 1, 8, [.int .u64 0], false⟩ := by kernel_rfl
theorem t18 : ti Try.prog 18 = some ⟨.struct [(0, 17)], 1, 8, [.pointer none], false⟩ := by kernel_rfl
theorem t19 : ti Try.prog 19 = some ⟨.struct [(0, 17)], 1, 8, [.pointer none], false⟩ := by kernel_rfl
theorem t21 : ti Try.prog 21 = some ⟨.int .i32, 1, 4, [.int .i32 0], false⟩ := by kernel_rfl
theorem t22 : ti Try.prog 22 = some ⟨.slice 57, 1, 24, [.slice none 0 0], false⟩ := by kernel_rfl
theorem t23 : ti Try.prog 23 = some ⟨.struct [(0, 3), (1, 3), (2, 3), (3, 22)], 4, 48, [.int .i64 0, .int .i64 0, .int .i64 0, .slice none 0 0], false⟩ := by kernel_rfl
theorem t24 : ti Try.prog 24 = some ⟨.struct [(0, 3), (1, 3), (2, 3), (3, 22)], 4, 48, [.int .i64 0, .int .i64 0, .int .i64 0, .slice none 0 0], false⟩ := by kernel_rfl
theorem t26 : ti Try.prog 26 = some ⟨.struct [(0, 3), (1, 3), (2, 3), (3, 22)], 4, 48, [.int .i64 0, .int .i64 0, .int .i64 0, .slice none 0 0], false⟩ := by kernel_rfl
theorem t33 : ti Try.prog 33 = some ⟨.slice 3, 1, 24, [.slice none 0 0], false⟩ := by kernel_rfl
theorem t48 : ti Try.prog 48 = some ⟨.struct [(0, 3), (1, 3), (2, 3), (3, 33), (4, 33), (5, 33)], 6, 96, [.int .i64 0, .int .i64 0, .int .i64 0, .slice none 0 0, .slice none 0 0, .slice none 0 0], false⟩ := by kernel_rfl
theorem t49 : ti Try.prog 49 = some ⟨.struct [(0, 3), (1, 3), (2, 3), (3, 33), (4, 33), (5, 33)], 6, 96, [.int .i64 0, .int .i64 0, .int .i64 0, .slice none 0 0, .slice none 0 0, .slice none 0 0], false⟩ := by kernel_rfl
theorem t57 : ti Try.prog 57 = some ⟨.array 3 3, 3, 24, [.int .i64 0, .int .i64 0, .int .i64 0], false⟩ := by kernel_rfl
theorem t59 : ti Try.prog 59 = some ⟨.array 3 3, 3, 24, [.int .i64 0, .int .i64 0, .int .i64 0], false⟩ := by kernel_rfl
theorem t67 : ti Try.prog 67 = some ⟨.int .u64, 1, 8, [.int .u64 0], false⟩ := by kernel_rfl
theorem t68 : ti Try.prog 68 = some ⟨.int .u64, 1, 8, [.int .u64 0], false⟩ := by kernel_rfl
theorem t102 : ti Try.prog 102 = some ⟨.array 3 33, 3, 72, [.slice none 0 0, .slice none 0 0, .slice none 0 0], false⟩ := by kernel_rfl
theorem t107 : ti Try.prog 107 = some ⟨.array 0 16, 0, 0, [], false⟩ := by kernel_rfl
theorem t108 : ti Try.prog 108 = some ⟨.struct [(0, 107)], 0, 0, [], false⟩ := by kernel_rfl
theorem t109 : ti Try.prog 109 = some ⟨.struct [(0, 107)], 0, 0, [], false⟩ := by kernel_rfl
theorem t110 : ti Try.prog 110 = some ⟨.int .u32, 1, 4, [.int .u32 0], false⟩ := by kernel_rfl
theorem t111 : ti Try.prog 111 = some ⟨.int .u8, 1, 1, [.int .u8 0], false⟩ := by kernel_rfl
theorem t112 : ti Try.prog 112 = some ⟨.int .u8, 1, 1, [.int .u8 0], false⟩ := by kernel_rfl
theorem t115 : ti Try.prog 115 = some ⟨.int .i32, 1, 4, [.int .i32 0], false⟩ := by kernel_rfl
theorem t116 : ti Try.prog 116 = some ⟨.int .i32, 1, 4, [.int .i32 0], false⟩ := by kernel_rfl
theorem t117 : ti Try.prog 117 = some ⟨.struct [(0, 12), (1, 12), (2, 110), (3, 111), (4, 5), (5, 5), (6, 112), (7, 113), (8, 114), (9, 115), (10, 116)], 11, 48, [.int .u64 0, .int .u64 0, .int .u32 0, .int .u8 0, .int .u8 0, .int .u8 0, .int .u8 0, .nilFunc, .pointer none, .int .i32 0, .int .i32 0], false⟩ := by kernel_rfl
theorem t118 : ti Try.prog 118 = some ⟨.struct [(0, 12), (1, 12), (2, 110), (3, 111), (4, 5), (5, 5), (6, 112), (7, 113), (8, 114), (9, 115), (10, 116)], 11, 48, [.int .u64 0, .int .u64 0, .int .u32 0, .int .u8 0, .int .u8 0, .int .u8 0, .int .u8 0, .nilFunc, .pointer none, .int .i32 0, .int .i32 0], false⟩ := by kernel_rfl
end Go.Sep.Walks
