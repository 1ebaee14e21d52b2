/- The triple of the law FnExactShiftHeap: for every heap and all three numbers it returns true; its cases: a heap too great, valid arguments, arguments that are not. -/
import Derived.Test.Ytoojonccocgnhaals
namespace Go.Sep.Walks
set_option linter.unusedVariables false
set_option linter.unusedSimpArgs false
open Go Go.Sep Go.Proofs
theorem fnExactShiftHeap_fn (X Y Z : Int) (zs : List Int) (c : Value) (ws : List Int) (H : Heap) (n : Nat) (g : good [X, Y, Z]) (gz : good zs) (hl : ws.length = 3) (gw : good ws)
    (r : RowV H n 3 c zs) : Fn Try.prog 6 [.agg #[.int .i64 X, .int .i64 Y, .int .i64 Z, c], .agg (ints ws).toArray] H n (.bool true) H n := by
  obtain ⟨hr, hmax⟩ := r.cells
  obtain ⟨d1, d2, d3, rfl⟩ : ∃ d1 d2 d3, ws = [d1, d2, d3] := by
    match ws, hl with
    | [a, b, c], _ => exact ⟨a, b, c, rfl⟩
  by_cases hlen : (trip zs).length ≤ 1048576
  · cases hh : shiftOk X Y Z (trip zs) (d1, d2, d3) with
    | true =>
      simp only [shiftOk, Bool.and_eq_true] at hh
      exact laws_FnExactShiftHeap_ok X Y Z c (trip zs) n (d1, d2, d3) H n hr (Nat.le_refl _) hlen hh.1.1 (within3_bd hh.1.2) (fun c hc => inBox_bd (List.all_eq_true.mp hh.2 c hc))
    | false => exact laws_FnExactShiftHeap_no X Y Z c (trip zs) n (d1, d2, d3) H n hr (Nat.le_refl _) hlen hh
  · exact laws_FnExactShiftHeap_big X Y Z c (trip zs) n (d1, d2, d3) H n hr (Nat.le_refl _) hlen hmax
end Go.Sep.Walks
