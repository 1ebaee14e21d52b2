/- The triple of the law FnExactStairOrders: for all arguments it returns true; its cases: a heap too great, valid arguments, arguments that are not valid. -/
import Derived.Test.Ytkfhblkjllbejaaqstai1
namespace Go.Sep.Walks
set_option linter.unusedVariables false
set_option linter.unusedSimpArgs false
open Go Go.Sep Go.Proofs
theorem fnExactStairOrders_fn (X Y Z : Int) (zs : List Int) (c : Value) (H : Heap) (n : Nat) (g : good [X, Y, Z]) (gz : good zs) (r : RowV H n 3 c zs) :
    Fn Try.prog 10 [.agg #[.int .i64 X, .int .i64 Y, .int .i64 Z, c]] H n (.bool true) H n := by
  obtain ⟨hr, hmax⟩ := r.cells
  by_cases hlen : (trip zs).length ≤ 1048576
  · cases hh : (isHeap X Y Z (trip zs) && stairC (trip zs) && decide ((trip zs).length ≤ 9)) with
    | true =>
      rw [Bool.and_eq_true, Bool.and_eq_true] at hh
      exact laws_FnExactStairOrders_ok X Y Z c (trip zs) n H n hr (Nat.le_refl _) hlen hh.1.1 hh.1.2 (of_decide_eq_true hh.2)
    | false => exact laws_FnExactStairOrders_no X Y Z c (trip zs) n H n hr (Nat.le_refl _) hlen hh
  · exact laws_FnExactStairOrders_big X Y Z c (trip zs) n H n hr (Nat.le_refl _) hlen hmax
end Go.Sep.Walks
