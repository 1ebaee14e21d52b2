/- The triple of the law FnExactCleanShadow: for all arguments it returns true; its cases: a heap too great, valid arguments, arguments that are not valid. -/
import Derived.Test.Ytejicbppanhbjaaqclea1
namespace Go.Sep.Walks
set_option linter.unusedVariables false
set_option linter.unusedSimpArgs false
open Go Go.Sep Go.Proofs
theorem fnExactCleanShadow_fn (X Y Z : Int) (z0 z1 z2 : List Int) (c0 c1 c2 : Value) (H : Heap) (n : Nat) (g : good [X, Y, Z]) (gz0 : good z0) (gz1 : good z1) (gz2 : good z2) (r0 : RowV H n 1 c0 z0) (r1 : RowV H n 1 c1 z1) (r2 : RowV H n 1 c2 z2) :
    Fn Try.prog 8 [.agg #[.int .i64 X, .int .i64 Y, .int .i64 Z, c0, c1, c2]] H n (.bool true) H n := by
  obtain ⟨h0, m0⟩ := r0.ints1
  obtain ⟨h1, m1⟩ := r1.ints1
  obtain ⟨h2, m2⟩ := r2.ints1
  by_cases hlen : z0.length + z1.length + z2.length ≤ 1048576
  · cases hh : shadB X Y Z z0 z1 z2 with
    | true =>
      exact laws_FnExactCleanShadow_ok X Y Z c0 c1 c2 z0 z1 z2 n H n h0 h1 h2 (Nat.le_refl _) hlen hh
    | false => exact laws_FnExactCleanShadow_no X Y Z c0 c1 c2 z0 z1 z2 n H n h0 h1 h2 (Nat.le_refl _) hlen hh
  · exact laws_FnExactCleanShadow_big X Y Z c0 c1 c2 z0 z1 z2 n H n h0 h1 h2 (Nat.le_refl _) hlen ⟨m0, m1, m2⟩
end Go.Sep.Walks
