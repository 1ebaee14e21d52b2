/- Part of a proof: TT -/
import Derived.Test.YtbhplcnfadohfaaCells
import Derived.Test.YtbhplcnfadohfaaProg
namespace Go.Sep.Walks
set_option linter.unusedVariables false
set_option linter.unusedSimpArgs false
open Go Go.Proofs
theorem t2 : ti Try.prog 2 = some ⟨.int .i64, 1, 8, [.int .i64 0], false⟩ := by kernel_rfl
theorem t3 : ti Try.prog 3 = some ⟨.int .i64, 1, 8, [.int .i64 0], false⟩ := by kernel_rfl
theorem t4 : ti Try.prog 4 = some ⟨.bool, 1, 1, [.bool false], false⟩ := by kernel_rfl
theorem t5 : ti Try.prog 5 = some ⟨.int .u8, 1, 1, [.int .u8 0], false⟩ := by kernel_rfl
theorem t6 : ti Try.prog 6 = some ⟨.int .u8, 1, 1, [.int .u8 0], false⟩ := by kernel_rfl
theorem t7 : ti Try.prog 7 = some ⟨.struct [(0, 2), (1, 3), (2, 4), (3, 6)], 4, 24, [.int .i64 0, .int .i64 0, .bool false, .int .u8 0], false⟩ := by kernel_rfl
theorem t8 : ti Try.prog 8 = some ⟨.struct [(0, 2), (1, 3), (2, 4), (3, 6)], 4, 24, [.int .i64 0, .int .i64 0, .bool false, .int .u8 0], false⟩ := by kernel_rfl
theorem t12 : ti Try.prog 12 = some ⟨.int .u64, 1, 8, [.int .u64 0], false⟩ := by kernel_rfl
theorem t18 : ti Try.prog 18 = some ⟨.struct [(0, 17)], 1, 8, [.pointer none], false⟩ := by kernel_rfl
theorem t19 : ti Try.prog 19 = some ⟨.struct [(0, 17)], 1, 8, [.pointer none], false⟩ := by kernel_rfl
theorem t21 : ti Try.prog 21 = some ⟨.int .i32, 1, 4, [.int .i32 0], false⟩ := by kernel_rfl
theorem t22 : ti Try.prog 22 = some ⟨.slice 61, 1, 24, [.slice none 0 0], false⟩ := by kernel_rfl
theorem t23 : ti Try.prog 23 = some ⟨.struct [(0, 3), (1, 3), (2, 3), (3, 22)], 4, 48, [.int .i64 0, .int .i64 0, .int .i64 0, .slice none 0 0], false⟩ := by kernel_rfl
theorem t24 : ti Try.prog 24 = some ⟨.struct [(0, 3), (1, 3), (2, 3), (3, 22)], 4, 48, [.int .i64 0, .int .i64 0, .int .i64 0, .slice none 0 0], false⟩ := by kernel_rfl
theorem t28 : ti Try.prog 28 = some ⟨.struct [(0, 3), (1, 3), (2, 3), (3, 22)], 4, 48, [.int .i64 0, .int .i64 0, .int .i64 0, .slice none 0 0], false⟩ := by kernel_rfl
theorem t37 : ti Try.prog 37 = some ⟨.slice 22, 1, 24, [.slice none 0 0], false⟩ := by kernel_rfl
theorem t43 : ti Try.prog 43 = some ⟨.array 5 3, 5, 40, [.int .i64 0, .int .i64 0, .int .i64 0, .int .i64 0, .int .i64 0], false⟩ := by kernel_rfl
theorem t51 : ti Try.prog 51 = some ⟨.slice 3, 1, 24, [.slice none 0 0], false⟩ := by kernel_rfl
theorem t54 : ti Try.prog 54 = some ⟨.slice 51, 1, 24, [.slice none 0 0], false⟩ := by kernel_rfl
theorem t56 : ti Try.prog 56 = some ⟨.slice 54, 1, 24, [.slice none 0 0], false⟩ := by kernel_rfl
theorem t61 : ti Try.prog 61 = some ⟨.array 3 3, 3, 24, [.int .i64 0, .int .i64 0, .int .i64 0], false⟩ := by kernel_rfl
theorem t62 : ti Try.prog 62 = some ⟨.array 3 3, 3, 24, [.int .i64 0, .int .i64 0, .int .i64 0], false⟩ := by kernel_rfl
theorem t64 : ti Try.prog 64 = some ⟨.int .u64, 1, 8, [.int .u64 0], false⟩ := by kernel_rfl
theorem t65 : ti Try.prog 65 = some ⟨.int .u64, 1, 8, [.int .u64 0], false⟩ := by kernel_rfl
theorem t72 : ti Try.prog 72 = some ⟨.array 6 3, 6, 48, [.int .i64 0, .int .i64 0, .int .i64 0, .int .i64 0, .int .i64 0, .int .i64 0], false⟩ := by kernel_rfl
theorem t86 : ti Try.prog 86 = some ⟨.slice 4, 1, 24, [.slice none 0 0], false⟩ := by kernel_rfl
theorem t96 : ti Try.prog 96 = some ⟨.slice 65, 1, 24, [.slice none 0 0], false⟩ := by kernel_rfl
theorem t119 : ti Try.prog 119 = some ⟨.array 6 61, 18, 144, [.int .i64 0, .int .i64 0, .int .i64 0, .int .i64 0, .int .i64 0, .int .i64 0, .int .i64 0, .int .i64 0, .int .i64 0, .int .i64 0, .int .i64 0, .int .i64 0, .int .i64 0, .int .i64 0, .int .i64 0, .int .i64 0, .int .i64 0, .int .i64 0], false⟩ := by kernel_rfl
theorem t129 : ti Try.prog 129 = some ⟨.array 2 3, 2, 16, [.int .i64 0, .int .i64 0], false⟩ := by kernel_rfl
theorem t131 : ti Try.prog 131 = some ⟨.array 4 61, 12, 96, [.int .i64 0, .int .i64 0, .int .i64 0, .int .i64 0, .int .i64 0, .int .i64 0, .int .i64 0, .int .i64 0, .int .i64 0, .int .i64 0, .int .i64 0, .int .i64 0], false⟩ := by kernel_rfl
theorem t140 : ti Try.prog 140 = some ⟨.int .u64, 1, 8, [.int .u64 0], false⟩ := by kernel_rfl
theorem t144 : ti Try.prog 144 = some ⟨.array 0 16, 0, 0, [], false⟩ := by kernel_rfl
theorem t145 : ti Try.prog 145 = some ⟨.struct [(0, 144)], 0, 0, [], false⟩ := by kernel_rfl
theorem t146 : ti Try.prog 146 = some ⟨.struct [(0, 144)], 0, 0, [], false⟩ := by kernel_rfl
theorem t147 : ti Try.prog 147 = some ⟨.int .u32, 1, 4, [.int .u32 0], false⟩ := by kernel_rfl
theorem t148 : ti Try.prog 148 = some ⟨.int .u8, 1, 1, [.int .u8 0], false⟩ := by kernel_rfl
theorem t149 : ti Try.prog 149 = some ⟨.int .u8, 1, 1, [.int .u8 0], false⟩ := by kernel_rfl
theorem t152 : ti Try.prog 152 = some ⟨.int .i32, 1, 4, [.int .i32 0], false⟩ := by kernel_rfl
theorem t153 : ti Try.prog 153 = some ⟨.int .i32, 1, 4, [.int .i32 0], false⟩ := by kernel_rfl
theorem t154 : ti Try.prog 154 = some ⟨.struct [(0, 12), (1, 12), (2, 147), (3, 148), (4, 5), (5, 5), (6, 149), (7, 150), (8, 151), (9, 152), (10, 153)], 11, 48, [.int .u64 0, .int .u64 0, .int .u32 0, .int .u8 0, .int .u8 0, .int .u8 0, .int .u8 0, .nilFunc, .pointer none, .int .i32 0, .int .i32 0], false⟩ := by kernel_rfl
theorem t155 : ti Try.prog 155 = some ⟨.struct [(0, 12), (1, 12), (2, 147), (3, 148), (4, 5), (5, 5), (6, 149), (7, 150), (8, 151), (9, 152), (10, 153)], 11, 48, [.int .u64 0, .int .u64 0, .int .u32 0, .int .u8 0, .int .u8 0, .int .u8 0, .int .u8 0, .nilFunc, .pointer none, .int .i32 0, .int .i32 0], false⟩ := by kernel_rfl
end Go.Sep.Walks
