/- The triple of the law FnExactTurnHeap: for all arguments it returns true; its cases: a heap too great, valid arguments, arguments that are not valid. -/
import Derived.Test.Ytohmojljepjimaaqturn1
namespace Go.Sep.Walks
set_option linter.unusedVariables false
set_option linter.unusedSimpArgs false
open Go Go.Sep Go.Proofs
theorem fnExactTurnHeap_fn (X Y Z : Int) (zs : List Int) (c : Value) (a : Int) (H : Heap) (n : Nat) (g : good [X, Y, Z]) (gz : good zs) (ga : -9223372036854775808 ≤ a ∧ a ≤ 9223372036854775807) (r : RowV H n 3 c zs) :
    Fn Try.prog 7 [.agg #[.int .i64 X, .int .i64 Y, .int .i64 Z, c], .int .i64 a] H n (.bool true) H n := by
  obtain ⟨hr, hmax⟩ := r.cells
  by_cases hlen : (trip zs).length ≤ 1048576
  · cases hh : (isHeap X Y Z (trip zs) && within a 0 23) with
    | true =>
      rw [Bool.and_eq_true] at hh
      obtain ⟨j, rfl, hj⟩ := turn_nr hh.2
      exact laws_FnExactTurnHeap_ok X Y Z c (trip zs) n j H n hr (Nat.le_refl _) hlen hh.1 hj
    | false => exact laws_FnExactTurnHeap_no X Y Z c (trip zs) n a H n hr (Nat.le_refl _) hlen hh
  · exact laws_FnExactTurnHeap_big X Y Z c (trip zs) n a H n hr (Nat.le_refl _) hlen hmax
end Go.Sep.Walks
