/- Part of a proof: TT -/
import Derived.Test.YtohmojljepjimaaCells
import Derived.Test.YtohmojljepjimaaProg
namespace Go.Sep.Walks
set_option linter.unusedVariables false
set_option linter.unusedSimpArgs false
open Go Go.Proofs
theorem t2 : ti Try.prog 2 = some ⟨.int .i64, 1, 8, [.int .i64 0], false⟩ := by kernel_rfl
theorem t3 : ti Try.prog 3 = some ⟨.int .i64, 1, 8, [.int .i64 0], false⟩ := by kernel_rfl
theorem t4 : ti Try.prog 4 = some ⟨.bool, 1, 1, [.bool false], false⟩ := by kernel_rfl
theorem t5 : ti Try.prog 5 = some ⟨.int .u8, 1, 1, [.int .u8 0], false⟩ := by kernel_rfl
theorem t6 : ti Try.prog 6 = some ⟨.int .u8, 1, 1, [.int .u8 0], false⟩ := by kernel_rfl
theorem t7 : ti Try.prog 7 = some ⟨.struct [(0, 2), (1, 3), (2, 4), (3, 6)], 4, 24, [.int .i64 0, .int .i64 0, .bool false, .int .u8 0], false⟩ := by kernel_rfl
theorem t8 : ti Try.prog 8 = some ⟨.struct [(0, 2), (1, 3), (2, 4), (3, 6)], 4, 24, [.int .i64 0, .int .i64 0, .bool false, .int .u8 0], false⟩ := by kernel_rfl
theorem t12 : ti Try.prog 12 = some ⟨.int .u64, 1, 8, [.int .u64 0], false⟩ := by kernel_rfl
theorem t18 : ti Try.prog 18 = some ⟨.struct [(0, 17)], 1, 8, [.pointer none], false⟩ := by kernel_rfl
theorem t19 : ti Try.prog 19 = some ⟨.struct [(0, 17)], 1, 8, [.pointer none], false⟩ := by kernel_rfl
theorem t21 : ti Try.prog 21 = some ⟨.int .i32, 1, 4, [.int .i32 0], false⟩ := by kernel_rfl
theorem t22 : ti Try.prog 22 = some ⟨.slice 25, 1, 24, [.slice none 0 0], false⟩ := by kernel_rfl
theorem t23 : ti Try.prog 23 = some ⟨.struct [(0, 3), (1, 3), (2, 3), (3, 22)], 4, 48, [.int .i64 0, .int .i64 0, .int .i64 0, .slice none 0 0], false⟩ := by kernel_rfl
theorem t24 : ti Try.prog 24 = some ⟨.struct [(0, 3), (1, 3), (2, 3), (3, 22)], 4, 48, [.int .i64 0, .int .i64 0, .int .i64 0, .slice none 0 0], false⟩ := by kernel_rfl
theorem t25 : ti Try.prog 25 = some ⟨.array 3 3, 3, 24, [.int .i64 0, .int .i64 0, .int .i64 0], false⟩ := by kernel_rfl
theorem t30 : ti Try.prog 30 = some ⟨.struct [(0, 3), (1, 3), (2, 3), (3, 22)], 4, 48, [.int .i64 0, .int .i64 0, .int .i64 0, .slice none 0 0], false⟩ := by kernel_rfl
theorem t40 : ti Try.prog 40 = some ⟨.slice 3, 1, 24, [.slice none 0 0], false⟩ := by kernel_rfl
theorem t60 : ti Try.prog 60 = some ⟨.slice 22, 1, 24, [.slice none 0 0], false⟩ := by kernel_rfl
theorem t70 : ti Try.prog 70 = some ⟨.int .u64, 1, 8, [.int .u64 0], false⟩ := by kernel_rfl
theorem t71 : ti Try.prog 71 = some ⟨.int .u64, 1, 8, [.int .u64 0], false⟩ := by kernel_rfl
theorem t73 : ti Try.prog 73 = some ⟨.array 3 3, 3, 24, [.int .i64 0, .int .i64 0, .int .i64 0], false⟩ := by kernel_rfl
theorem t87 : ti Try.prog 87 = some ⟨.struct [(0, 40), (1, 3)], 2, 32, [.slice none 0 0, .int .i64 0], false⟩ := by kernel_rfl
theorem t88 : ti Try.prog 88 = some ⟨.struct [(0, 40), (1, 3)], 2, 32, [.slice none 0 0, .int .i64 0], false⟩ := by kernel_rfl
theorem t97 : ti Try.prog 97 = some ⟨.struct [(0, 25), (3, 25)], 6, 48, [.int .i64 0, .int .i64 0, .int .i64 0, .int .i64 0, .int .i64 0, .int .i64 0], false⟩ := by kernel_rfl
theorem t98 : ti Try.prog 98 = some ⟨.struct [(0, 25), (3, 25)], 6, 48, [.int .i64 0, .int .i64 0, .int .i64 0, .int .i64 0, .int .i64 0, .int .i64 0], false⟩ := by kernel_rfl
theorem t99 : ti Try.prog 99 = some ⟨.slice 98, 1, 24, [.slice none 0 0], false⟩ := by kernel_rfl
theorem t101 : ti Try.prog 101 = some ⟨.struct [(0, 25), (3, 25)], 6, 48, [.int .i64 0, .int .i64 0, .int .i64 0, .int .i64 0, .int .i64 0, .int .i64 0], false⟩ := by kernel_rfl
theorem t102 : ti Try.prog 102 = some ⟨.struct [(0, 25), (3, 25)], 6, 48, [.int .i64 0, .int .i64 0, .int .i64 0, .int .i64 0, .int .i64 0, .int .i64 0], false⟩ := by kernel_rfl
theorem t103 : ti Try.prog 103 = some ⟨.slice 102, 1, 24, [.slice none 0 0], false⟩ := by kernel_rfl
theorem t111 : ti Try.prog 111 = some ⟨.slice 71, 1, 24, [.slice none 0 0], false⟩ := by kernel_rfl
theorem t125 : ti Try.prog 125 = some ⟨.int .u64, 1, 8, [.int .u64 0], false⟩ := by kernel_rfl
theorem t141 : ti Try.prog 141 = some ⟨.array 2 3, 2, 16, [.int .i64 0, .int .i64 0], false⟩ := by kernel_rfl
theorem t145 : ti Try.prog 145 = some ⟨.array 0 16, 0, 0, [], false⟩ := by kernel_rfl
theorem t146 : ti Try.prog 146 = some ⟨.struct [(0, 145)], 0, 0, [], false⟩ := by kernel_rfl
theorem t147 : ti Try.prog 147 = some ⟨.struct [(0, 145)], 0, 0, [], false⟩ := by kernel_rfl
theorem t148 : ti Try.prog 148 = some ⟨.int .u32, 1, 4, [.int .u32 0], false⟩ := by kernel_rfl
theorem t149 : ti Try.prog 149 = some ⟨.int .u8, 1, 1, [.int .u8 0], false⟩ := by kernel_rfl
theorem t150 : ti Try.prog 150 = some ⟨.int .u8, 1, 1, [.int .u8 0], false⟩ := by kernel_rfl
theorem t153 : ti Try.prog 153 = some ⟨.int .i32, 1, 4, [.int .i32 0], false⟩ := by kernel_rfl
theorem t154 : ti Try.prog 154 = some ⟨.int .i32, 1, 4, [.int .i32 0], false⟩ := by kernel_rfl
theorem t155 : ti Try.prog 155 = some ⟨.struct [(0, 12), (1, 12), (2, 148), (3, 149), (4, 5), (5, 5), (6, 150), (7, 151), (8, 152), (9, 153), (10, 154)], 11, 48, [.int .u64 0, .int .u64 0, .int .u32 0, .int .u8 0, .int .u8 0, .int .u8 0, .int .u8 0, .nilFunc, .pointer none, .int .i32 0, .int .i32 0], false⟩ := by kernel_rfl
theorem t156 : ti Try.prog 156 = some ⟨.struct [(0, 12), (1, 12), (2, 148), (3, 149), (4, 5), (5, 5), (6, 150), (7, 151), (8, 152), (9, 153), (10, 154)], 11, 48, [.int .u64 0, .int .u64 0, .int .u32 0, .int .u8 0, .int .u8 0, .int .u8 0, .int .u8 0, .nilFunc, .pointer none, .int .i32 0, .int .i32 0], false⟩ := by kernel_rfl
end Go.Sep.Walks
