/- The triple of the law FnExactCanTake: for all arguments it returns true; its cases: a heap too great, valid arguments, arguments that are not valid. -/
import Derived.Test.Ytohmojljepjimaaqcant1
namespace Go.Sep.Walks
set_option linter.unusedVariables false
set_option linter.unusedSimpArgs false
open Go Go.Sep Go.Proofs
theorem fnExactCanTake_fn (X Y Z : Int) (zs : List Int) (c : Value) (ws : List Int) (H : Heap) (n : Nat) (g : good [X, Y, Z]) (gz : good zs) (hl : ws.length = 3) (gw : good ws) (r : RowV H n 3 c zs) :
    Fn Try.prog 6 [.agg #[.int .i64 X, .int .i64 Y, .int .i64 Z, c], .agg (ints ws).toArray] H n (.bool true) H n := by
  obtain ⟨hr, hmax⟩ := r.cells
  obtain ⟨d1, d2, d3, rfl⟩ : ∃ d1 d2 d3, ws = [d1, d2, d3] := by
    match ws, hl with
    | [a, b, c], _ => exact ⟨a, b, c, rfl⟩
  by_cases hlen : (trip zs).length ≤ 1048576
  · cases hh : (isHeap X Y Z (trip zs) && stdB (trip zs) && inBox X Y Z (d1, d2, d3)) with
    | true =>
      rw [Bool.and_eq_true, Bool.and_eq_true] at hh
      exact laws_FnExactCanTake_ok X Y Z c (trip zs) n (d1, d2, d3) H n hr (Nat.le_refl _) hlen hh.1.1 hh.1.2 (inBox_bd hh.2)
    | false => exact laws_FnExactCanTake_no X Y Z c (trip zs) n (d1, d2, d3) H n hr (Nat.le_refl _) hlen hh
  · exact laws_FnExactCanTake_big X Y Z c (trip zs) n (d1, d2, d3) H n hr (Nat.le_refl _) hlen hmax
end Go.Sep.Walks
