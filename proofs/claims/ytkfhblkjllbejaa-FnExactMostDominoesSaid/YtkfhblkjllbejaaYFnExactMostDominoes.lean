/- The triple of the law FnExactMostDominoes: for every heap it returns true; its cases: a heap too great, valid arguments, arguments that are not valid. -/
import Derived.Test.Ytkfhblkjllbejaaqmost1
namespace Go.Sep.Walks
set_option linter.unusedVariables false
set_option linter.unusedSimpArgs false
open Go Go.Sep Go.Proofs
theorem fnExactMostDominoes_fn (X Y Z : Int) (zs : List Int) (c : Value) (H : Heap) (n : Nat) (g : good [X, Y, Z]) (gz : good zs) (r : RowV H n 3 c zs) :
    Fn Try.prog 11 [.agg #[.int .i64 X, .int .i64 Y, .int .i64 Z, c]] H n (.bool true) H n := by
  obtain ⟨hr, hmax⟩ := r.cells
  by_cases hlen : (trip zs).length ≤ 1048576
  · cases hh : isHeap X Y Z (trip zs) with
    | true =>
      exact laws_FnExactMostDominoes_ok X Y Z c (trip zs) n H n hr (Nat.le_refl _) hlen hh
    | false => exact laws_FnExactMostDominoes_no X Y Z c (trip zs) n H n hr (Nat.le_refl _) hlen hh
  · exact laws_FnExactMostDominoes_big X Y Z c (trip zs) n H n hr (Nat.le_refl _) hlen hmax
end Go.Sep.Walks
