/- Part of a proof: TT -/
import Derived.Test.YtkfhblkjllbejaaG1
import Derived.Test.YtkfhblkjllbejaaProg
namespace Go.Sep.Walks
set_option linter.unusedVariables false
set_option linter.unusedSimpArgs false
open Go Go.Proofs
theorem t1 : ti Try.prog 1 = some ⟨.func, 1, 8, [.nilFunc], false⟩ := by kernel_rfl
theorem t2 : ti Try.prog 2 = some ⟨.int .i64, 1, 8, [.int .i64 0], false⟩ := by kernel_rfl
theorem tz2 : zeroOf Try.prog 2 = some (.int .i64 0) := by kernel_rfl
theorem t3 : ti Try.prog 3 = some ⟨.int .i64, 1, 8, [.int .i64 0], false⟩ := by kernel_rfl
theorem tz3 : zeroOf Try.prog 3 = some (.int .i64 0) := by kernel_rfl
theorem t4 : ti Try.prog 4 = some ⟨.bool, 1, 1, [.bool false], false⟩ := by kernel_rfl
theorem tz4 : zeroOf Try.prog 4 = some (.bool false) := by kernel_rfl
theorem t5 : ti Try.prog 5 = some ⟨.int .u8, 1, 1, [.int .u8 0], false⟩ := by kernel_rfl
theorem tz5 : zeroOf Try.prog 5 = some (.int .u8 0) := by kernel_rfl
theorem t6 : ti Try.prog 6 = some ⟨.int .u8, 1, 1, [.int .u8 0], false⟩ := by kernel_rfl
theorem tz6 : zeroOf Try.prog 6 = some (.int .u8 0) := by kernel_rfl
theorem t7 : ti Try.prog 7 = some ⟨.struct [(0, 2), (1, 3), (2, 4), (3, 6)], 4, 24, [.int .i64 0, .int .i64 0, .bool false, .int .u8 0], false⟩ := by kernel_rfl
theorem t8 : ti Try.prog 8 = some ⟨.struct [(0, 2), (1, 3), (2, 4), (3, 6)], 4, 24, [.int .i64 0, .int .i64 0, .bool false, .int .u8 0], false⟩ := by kernel_rfl
theorem t12 : ti Try.prog 12 = some ⟨.int .u64, 1, 8, [.int .u64 0], false⟩ := by kernel_rfl
theorem tz12 : zeroOf Try.prog 12 = some (.int .u64 0) := by kernel_rfl
theorem t18 : ti Try.prog 18 = some ⟨.struct [(0, 17)], 1, 8, [.pointer none], false⟩ := by kernel_rfl
theorem t19 : ti Try.prog 19 = some ⟨.struct [(0, 17)], 1, 8, [.pointer none], false⟩ := by kernel_rfl
theorem t21 : ti Try.prog 21 = some ⟨.int .i32, 1, 4, [.int .i32 0], false⟩ := by kernel_rfl
theorem tz21 : zeroOf Try.prog 21 = some (.int .i32 0) := by kernel_rfl
theorem t22 : ti Try.prog 22 = some ⟨.slice 62, 1, 24, [.slice none 0 0], false⟩ := by kernel_rfl
theorem t23 : ti Try.prog 23 = some ⟨.struct [(0, 3), (1, 3), (2, 3), (3, 22)], 4, 48, [.int .i64 0, .int .i64 0, .int .i64 0, .slice none 0 0], false⟩ := by kernel_rfl
theorem t24 : ti Try.prog 24 = some ⟨.struct [(0, 3), (1, 3), (2, 3), (3, 22)], 4, 48, [.int .i64 0, .int .i64 0, .int .i64 0, .slice none 0 0], false⟩ := by kernel_rfl
theorem t25 : ti Try.prog 25 = some ⟨.func, 1, 8, [.nilFunc], false⟩ := by kernel_rfl
theorem t27 : ti Try.prog 27 = some ⟨.func, 1, 8, [.nilFunc], false⟩ := by kernel_rfl
theorem t28 : ti Try.prog 28 = some ⟨.struct [(0, 3), (1, 3), (2, 3), (3, 22)], 4, 48, [.int .i64 0, .int .i64 0, .int .i64 0, .slice none 0 0], false⟩ := by kernel_rfl
theorem t29 : ti Try.prog 29 = some ⟨.func, 1, 8, [.nilFunc], false⟩ := by kernel_rfl
theorem t30 : ti Try.prog 30 = some ⟨.func, 1, 8, [.nilFunc], false⟩ := by kernel_rfl
theorem t31 : ti Try.prog 31 = some ⟨.func, 1, 8, [.nilFunc], false⟩ := by kernel_rfl
theorem t32 : ti Try.prog 32 = some ⟨.slice 46, 1, 24, [.slice none 0 0], false⟩ := by kernel_rfl
theorem t34 : ti Try.prog 34 = some ⟨.func, 1, 8, [.nilFunc], false⟩ := by kernel_rfl
theorem t35 : ti Try.prog 35 = some ⟨.func, 1, 8, [.nilFunc], false⟩ := by kernel_rfl
theorem t36 : ti Try.prog 36 = some ⟨.func, 1, 8, [.nilFunc], false⟩ := by kernel_rfl
theorem t37 : ti Try.prog 37 = some ⟨.func, 1, 8, [.nilFunc], false⟩ := by kernel_rfl
theorem t38 : ti Try.prog 38 = some ⟨.slice 22, 1, 24, [.slice none 0 0], false⟩ := by kernel_rfl
theorem t40 : ti Try.prog 40 = some ⟨.func, 1, 8, [.nilFunc], false⟩ := by kernel_rfl
theorem t41 : ti Try.prog 41 = some ⟨.func, 1, 8, [.nilFunc], false⟩ := by kernel_rfl
theorem t42 : ti Try.prog 42 = some ⟨.func, 1, 8, [.nilFunc], false⟩ := by kernel_rfl
theorem t43 : ti Try.prog 43 = some ⟨.func, 1, 8, [.nilFunc], false⟩ := by kernel_rfl
theorem t45 : ti Try.prog 45 = some ⟨.func, 1, 8, [.nilFunc], false⟩ := by kernel_rfl
theorem t46 : ti Try.prog 46 = some ⟨.array 5 3, 5, 40, [.int .i64 0, .int .i64 0, .int .i64 0, .int .i64 0, .int .i64 0], false⟩ := by kernel_rfl
theorem t48 : ti Try.prog 48 = some ⟨.func, 1, 8, [.nilFunc], false⟩ := by kernel_rfl
theorem t49 : ti Try.prog 49 = some ⟨.func, 1, 8, [.nilFunc], false⟩ := by kernel_rfl
theorem t50 : ti Try.prog 50 = some ⟨.func, 1, 8, [.nilFunc], false⟩ := by kernel_rfl
theorem t51 : ti Try.prog 51 = some ⟨.func, 1, 8, [.nilFunc], false⟩ := by kernel_rfl
theorem t52 : ti Try.prog 52 = some ⟨.func, 1, 8, [.nilFunc], false⟩ := by kernel_rfl
theorem t53 : ti Try.prog 53 = some ⟨.func, 1, 8, [.nilFunc], false⟩ := by kernel_rfl
theorem t54 : ti Try.prog 54 = some ⟨.func, 1, 8, [.nilFunc], false⟩ := by kernel_rfl
theorem t55 : ti Try.prog 55 = some ⟨.func, 1, 8, [.nilFunc], false⟩ := by kernel_rfl
theorem t56 : ti Try.prog 56 = some ⟨.func, 1, 8, [.nilFunc], false⟩ := by kernel_rfl
theorem t57 : ti Try.prog 57 = some ⟨.func, 1, 8, [.nilFunc], false⟩ := by kernel_rfl
theorem t58 : ti Try.prog 58 = some ⟨.func, 1, 8, [.nilFunc], false⟩ := by kernel_rfl
theorem t59 : ti Try.prog 59 = some ⟨.func, 1, 8, [.nilFunc], false⟩ := by kernel_rfl
theorem t60 : ti Try.prog 60 = some ⟨.func, 1, 8, [.nilFunc], false⟩ := by kernel_rfl
theorem t61 : ti Try.prog 61 = some ⟨.func, 1, 8, [.nilFunc], false⟩ := by kernel_rfl
theorem t62 : ti Try.prog 62 = some ⟨.array 3 3, 3, 24, [.int .i64 0, .int .i64 0, .int .i64 0], false⟩ := by kernel_rfl
theorem t63 : ti Try.prog 63 = some ⟨.array 3 3, 3, 24, [.int .i64 0, .int .i64 0, .int .i64 0], false⟩ := by kernel_rfl
theorem t64 : ti Try.prog 64 = some ⟨.func, 1, 8, [.nilFunc], false⟩ := by kernel_rfl
theorem t65 : ti Try.prog 65 = some ⟨.func, 1, 8, [.nilFunc], false⟩ := by kernel_rfl
theorem t66 : ti Try.prog 66 = some ⟨.slice 73, 1, 24, [.slice none 0 0], false⟩ := by kernel_rfl
theorem t67 : ti Try.prog 67 = some ⟨.func, 1, 8, [.nilFunc], false⟩ := by kernel_rfl
theorem t68 : ti Try.prog 68 = some ⟨.func, 1, 8, [.nilFunc], false⟩ := by kernel_rfl
theorem t69 : ti Try.prog 69 = some ⟨.array 6 3, 6, 48, [.int .i64 0, .int .i64 0, .int .i64 0, .int .i64 0, .int .i64 0, .int .i64 0], false⟩ := by kernel_rfl
theorem t70 : ti Try.prog 70 = some ⟨.func, 1, 8, [.nilFunc], false⟩ := by kernel_rfl
theorem t71 : ti Try.prog 71 = some ⟨.func, 1, 8, [.nilFunc], false⟩ := by kernel_rfl
theorem t72 : ti Try.prog 72 = some ⟨.int .u64, 1, 8, [.int .u64 0], false⟩ := by kernel_rfl
theorem tz72 : zeroOf Try.prog 72 = some (.int .u64 0) := by kernel_rfl
theorem t73 : ti Try.prog 73 = some ⟨.int .u64, 1, 8, [.int .u64 0], false⟩ := by kernel_rfl
theorem tz73 : zeroOf Try.prog 73 = some (.int .u64 0) := by kernel_rfl
theorem t74 : ti Try.prog 74 = some ⟨.func, 1, 8, [.nilFunc], false⟩ := by kernel_rfl
theorem t75 : ti Try.prog 75 = some ⟨.func, 1, 8, [.nilFunc], false⟩ := by kernel_rfl
theorem t76 : ti Try.prog 76 = some ⟨.func, 1, 8, [.nilFunc], false⟩ := by kernel_rfl
theorem t77 : ti Try.prog 77 = some ⟨.func, 1, 8, [.nilFunc], false⟩ := by kernel_rfl
theorem t78 : ti Try.prog 78 = some ⟨.func, 1, 8, [.nilFunc], false⟩ := by kernel_rfl
theorem t79 : ti Try.prog 79 = some ⟨.func, 1, 8, [.nilFunc], false⟩ := by kernel_rfl
theorem t80 : ti Try.prog 80 = some ⟨.func, 1, 8, [.nilFunc], false⟩ := by kernel_rfl
theorem t81 : ti Try.prog 81 = some ⟨.func, 1, 8, [.nilFunc], false⟩ := by kernel_rfl
theorem t82 : ti Try.prog 82 = some ⟨.slice 3, 1, 24, [.slice none 0 0], false⟩ := by kernel_rfl
theorem t84 : ti Try.prog 84 = some ⟨.func, 1, 8, [.nilFunc], false⟩ := by kernel_rfl
theorem t85 : ti Try.prog 85 = some ⟨.func, 1, 8, [.nilFunc], false⟩ := by kernel_rfl
theorem t86 : ti Try.prog 86 = some ⟨.func, 1, 8, [.nilFunc], false⟩ := by kernel_rfl
theorem t88 : ti Try.prog 88 = some ⟨.func, 1, 8, [.nilFunc], false⟩ := by kernel_rfl
theorem t89 : ti Try.prog 89 = some ⟨.slice 82, 1, 24, [.slice none 0 0], false⟩ := by kernel_rfl
theorem t90 : ti Try.prog 90 = some ⟨.func, 1, 8, [.nilFunc], false⟩ := by kernel_rfl
theorem t91 : ti Try.prog 91 = some ⟨.slice 89, 1, 24, [.slice none 0 0], false⟩ := by kernel_rfl
theorem t92 : ti Try.prog 92 = some ⟨.func, 1, 8, [.nilFunc], false⟩ := by kernel_rfl
theorem t94 : ti Try.prog 94 = some ⟨.func, 1, 8, [.nilFunc], false⟩ := by kernel_rfl
theorem t95 : ti Try.prog 95 = some ⟨.func, 1, 8, [.nilFunc], false⟩ := by kernel_rfl
theorem t96 : ti Try.prog 96 = some ⟨.func, 1, 8, [.nilFunc], false⟩ := by kernel_rfl
theorem t97 : ti Try.prog 97 = some ⟨.func, 1, 8, [.nilFunc], false⟩ := by kernel_rfl
theorem t98 : ti Try.prog 98 = some ⟨.func, 1, 8, [.nilFunc], false⟩ := by kernel_rfl
theorem t99 : ti Try.prog 99 = some ⟨.func, 1, 8, [.nilFunc], false⟩ := by kernel_rfl
theorem t100 : ti Try.prog 100 = some ⟨.func, 1, 8, [.nilFunc], false⟩ := by kernel_rfl
theorem t101 : ti Try.prog 101 = some ⟨.func, 1, 8, [.nilFunc], false⟩ := by kernel_rfl
theorem t102 : ti Try.prog 102 = some ⟨.map 73 3, 1, 8, [.map none], false⟩ := by kernel_rfl
theorem t103 : ti Try.prog 103 = some ⟨.func, 1, 8, [.nilFunc], false⟩ := by kernel_rfl
theorem t104 : ti Try.prog 104 = some ⟨.func, 1, 8, [.nilFunc], false⟩ := by kernel_rfl
theorem t105 : ti Try.prog 105 = some ⟨.slice 4, 1, 24, [.slice none 0 0], false⟩ := by kernel_rfl
theorem t106 : ti Try.prog 106 = some ⟨.map 3 3, 1, 8, [.map none], false⟩ := by kernel_rfl
theorem t107 : ti Try.prog 107 = some ⟨.func, 1, 8, [.nilFunc], false⟩ := by kernel_rfl
theorem t108 : ti Try.prog 108 = some ⟨.map 3 4, 1, 8, [.map none], false⟩ := by kernel_rfl
theorem t109 : ti Try.prog 109 = some ⟨.func, 1, 8, [.nilFunc], false⟩ := by kernel_rfl
theorem t110 : ti Try.prog 110 = some ⟨.func, 1, 8, [.nilFunc], false⟩ := by kernel_rfl
theorem t111 : ti Try.prog 111 = some ⟨.func, 1, 8, [.nilFunc], false⟩ := by kernel_rfl
theorem t112 : ti Try.prog 112 = some ⟨.func, 1, 8, [.nilFunc], false⟩ := by kernel_rfl
theorem t113 : ti Try.prog 113 = some ⟨.func, 1, 8, [.nilFunc], false⟩ := by kernel_rfl
theorem t114 : ti Try.prog 114 = some ⟨.func, 1, 8, [.nilFunc], false⟩ := by kernel_rfl
theorem t115 : ti Try.prog 115 = some ⟨.func, 1, 8, [.nilFunc], false⟩ := by kernel_rfl
theorem t116 : ti Try.prog 116 = some ⟨.func, 1, 8, [.nilFunc], false⟩ := by kernel_rfl
theorem t117 : ti Try.prog 117 = some ⟨.func, 1, 8, [.nilFunc], false⟩ := by kernel_rfl
theorem t118 : ti Try.prog 118 = some ⟨.func, 1, 8, [.nilFunc], false⟩ := by kernel_rfl
theorem t119 : ti Try.prog 119 = some ⟨.array 6 62, 18, 144, [.int .i64 0, .int .i64 0, .int .i64 0, .int .i64 0, .int .i64 0, .int .i64 0, .int .i64 0, .int .i64 0, .int .i64 0, .int .i64 0, .int .i64 0, .int .i64 0, .int .i64 0, .int .i64 0, .int .i64 0, .int .i64 0, .int .i64 0, .int .i64 0], false⟩ := by kernel_rfl
theorem t120 : ti Try.prog 120 = some ⟨.func, 1, 8, [.nilFunc], false⟩ := by kernel_rfl
theorem t121 : ti Try.prog 121 = some ⟨.func, 1, 8, [.nilFunc], false⟩ := by kernel_rfl
theorem t122 : ti Try.prog 122 = some ⟨.func, 1, 8, [.nilFunc], false⟩ := by kernel_rfl
theorem t123 : ti Try.prog 123 = some ⟨.func, 1, 8, [.nilFunc], false⟩ := by kernel_rfl
theorem t124 : ti Try.prog 124 = some ⟨.array 4 62, 12, 96, [.int .i64 0, .int .i64 0, .int .i64 0, .int .i64 0, .int .i64 0, .int .i64 0, .int .i64 0, .int .i64 0, .int .i64 0, .int .i64 0, .int .i64 0, .int .i64 0], false⟩ := by kernel_rfl
theorem t125 : ti Try.prog 125 = some ⟨.func, 1, 8, [.nilFunc], false⟩ := by kernel_rfl
theorem t127 : ti Try.prog 127 = some ⟨.func, 1, 8, [.nilFunc], false⟩ := by kernel_rfl
theorem t129 : ti Try.prog 129 = some ⟨.func, 1, 8, [.nilFunc], false⟩ := by kernel_rfl
theorem t130 : ti Try.prog 130 = some ⟨.func, 1, 8, [.nilFunc], false⟩ := by kernel_rfl
theorem t131 : ti Try.prog 131 = some ⟨.func, 1, 8, [.nilFunc], false⟩ := by kernel_rfl
theorem t132 : ti Try.prog 132 = some ⟨.func, 1, 8, [.nilFunc], false⟩ := by kernel_rfl
theorem t133 : ti Try.prog 133 = some ⟨.func, 1, 8, [.nilFunc], false⟩ := by kernel_rfl
theorem t134 : ti Try.prog 134 = some ⟨.func, 1, 8, [.nilFunc], false⟩ := by kernel_rfl
theorem t135 : ti Try.prog 135 = some ⟨.func, 1, 8, [.nilFunc], false⟩ := by kernel_rfl
theorem t136 : ti Try.prog 136 = some ⟨.array 2 3, 2, 16, [.int .i64 0, .int .i64 0], false⟩ := by kernel_rfl
theorem t137 : ti Try.prog 137 = some ⟨.func, 1, 8, [.nilFunc], false⟩ := by kernel_rfl
theorem t138 : ti Try.prog 138 = some ⟨.func, 1, 8, [.nilFunc], false⟩ := by kernel_rfl
theorem t139 : ti Try.prog 139 = some ⟨.func, 1, 8, [.nilFunc], false⟩ := by kernel_rfl
theorem t140 : ti Try.prog 140 = some ⟨.func, 1, 8, [.nilFunc], false⟩ := by kernel_rfl
theorem t141 : ti Try.prog 141 = some ⟨.int .u64, 1, 8, [.int .u64 0], false⟩ := by kernel_rfl
theorem tz141 : zeroOf Try.prog 141 = some (.int .u64 0) := by kernel_rfl
theorem t142 : ti Try.prog 142 = some ⟨.func, 1, 8, [.nilFunc], false⟩ := by kernel_rfl
theorem t145 : ti Try.prog 145 = some ⟨.array 0 16, 0, 0, [], false⟩ := by kernel_rfl
theorem t146 : ti Try.prog 146 = some ⟨.struct [(0, 145)], 0, 0, [], false⟩ := by kernel_rfl
theorem t147 : ti Try.prog 147 = some ⟨.struct [(0, 145)], 0, 0, [], false⟩ := by kernel_rfl
theorem t148 : ti Try.prog 148 = some ⟨.int .u32, 1, 4, [.int .u32 0], false⟩ := by kernel_rfl
theorem tz148 : zeroOf Try.prog 148 = some (.int .u32 0) := by kernel_rfl
theorem t149 : ti Try.prog 149 = some ⟨.int .u8, 1, 1, [.int .u8 0], false⟩ := by kernel_rfl
theorem tz149 : zeroOf Try.prog 149 = some (.int .u8 0) := by kernel_rfl
theorem t150 : ti Try.prog 150 = some ⟨.int .u8, 1, 1, [.int .u8 0], false⟩ := by kernel_rfl
theorem tz150 : zeroOf Try.prog 150 = some (.int .u8 0) := by kernel_rfl
theorem t151 : ti Try.prog 151 = some ⟨.func, 1, 8, [.nilFunc], false⟩ := by kernel_rfl
theorem t153 : ti Try.prog 153 = some ⟨.int .i32, 1, 4, [.int .i32 0], false⟩ := by kernel_rfl
theorem tz153 : zeroOf Try.prog 153 = some (.int .i32 0) := by kernel_rfl
theorem t154 : ti Try.prog 154 = some ⟨.int .i32, 1, 4, [.int .i32 0], false⟩ := by kernel_rfl
theorem tz154 : zeroOf Try.prog 154 = some (.int .i32 0) := by kernel_rfl
theorem t155 : ti Try.prog 155 = some ⟨.struct [(0, 12), (1, 12), (2, 148), (3, 149), (4, 5), (5, 5), (6, 150), (7, 151), (8, 152), (9, 153), (10, 154)], 11, 48, [.int .u64 0, .int .u64 0, .int .u32 0, .int .u8 0, .int .u8 0, .int .u8 0, .int .u8 0, .nilFunc, .pointer none, .int .i32 0, .int .i32 0], false⟩ := by kernel_rfl
theorem t156 : ti Try.prog 156 = some ⟨.struct [(0, 12), (1, 12), (2, 148), (3, 149), (4, 5), (5, 5), (6, 150), (7, 151), (8, 152), (9, 153), (10, 154)], 11, 48, [.int .u64 0, .int .u64 0, .int .u32 0, .int .u8 0, .int .u8 0, .int .u8 0, .int .u8 0, .nilFunc, .pointer none, .int .i32 0, .int .i32 0], false⟩ := by kernel_rfl
end Go.Sep.Walks
