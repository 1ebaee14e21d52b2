/- The triple of the law FnExactCountAlike: for all arguments it returns true; its cases: a heap too great, valid arguments, arguments that are not valid. -/
import Derived.Test.Ytkfhblkjllbejaaqcoun1
namespace Go.Sep.Walks
set_option linter.unusedVariables false
set_option linter.unusedSimpArgs false
open Go Go.Sep Go.Proofs
theorem fnExactCountAlike_fn (X Y Z : Int) (zs : List Int) (c : Value) (p q : Int) (H : Heap) (n : Nat) (g : good [X, Y, Z]) (gz : good zs) (gp : -9223372036854775808 ≤ p ∧ p ≤ 9223372036854775807) (gq : -9223372036854775808 ≤ q ∧ q ≤ 9223372036854775807) (r : RowV H n 3 c zs) :
    Fn Try.prog 8 [.agg #[.int .i64 X, .int .i64 Y, .int .i64 Z, c], .int .i64 p, .int .i64 q] H n (.bool true) H n := by
  obtain ⟨hr, hmax⟩ := r.cells
  by_cases hlen : (trip zs).length ≤ 1048576
  · cases hh : (isHeap X Y Z (trip zs) && dirs2 p q) with
    | true =>
      rw [Bool.and_eq_true] at hh
      obtain ⟨p', q', rfl, rfl, hp, hq, hpq⟩ := dirs_of hh.2
      exact laws_FnExactCountAlike_ok X Y Z c (trip zs) n p' q' H n hr (Nat.le_refl _) hlen hh.1 hp hq hpq
    | false => exact laws_FnExactCountAlike_no X Y Z c (trip zs) n p q H n hr (Nat.le_refl _) hlen hh
  · exact laws_FnExactCountAlike_big X Y Z c (trip zs) n p q H n hr (Nat.le_refl _) hlen hmax
end Go.Sep.Walks
