/- The triple of the law FnExactStepColumns: for all arguments it returns true; its cases: a heap too great, valid arguments, arguments that are not valid. -/
import Derived.Test.Ytohmojljepjimaaqstep1
namespace Go.Sep.Walks
set_option linter.unusedVariables false
set_option linter.unusedSimpArgs false
open Go Go.Sep Go.Proofs
theorem fnExactStepColumns_fn (X Y Z : Int) (zs : List Int) (c : Value) (p s : Int) (H : Heap) (n : Nat) (g : good [X, Y, Z]) (gz : good zs) (gp : -9223372036854775808 ≤ p ∧ p ≤ 9223372036854775807) (gs : -9223372036854775808 ≤ s ∧ s ≤ 9223372036854775807) (r : RowV H n 3 c zs) :
    Fn Try.prog 11 [.agg #[.int .i64 X, .int .i64 Y, .int .i64 Z, c], .int .i64 p, .int .i64 s] H n (.bool true) H n := by
  obtain ⟨hr, hmax⟩ := r.cells
  by_cases hlen : (trip zs).length ≤ 1048576
  · cases hh : (isHeap X Y Z (trip zs) && within p 0 (X * Y - 1) && decide (0 ≤ s)) with
    | true =>
      rw [Bool.and_eq_true, Bool.and_eq_true] at hh
      exact laws_FnExactStepColumns_ok X Y Z c (trip zs) n p s H n hr (Nat.le_refl _) hlen hh.1.1 (within_le hh.1.2) (of_decide_eq_true hh.2)
    | false => exact laws_FnExactStepColumns_no X Y Z c (trip zs) n p s H n hr (Nat.le_refl _) hlen hh
  · exact laws_FnExactStepColumns_big X Y Z c (trip zs) n p s H n hr (Nat.le_refl _) hlen hmax
end Go.Sep.Walks
