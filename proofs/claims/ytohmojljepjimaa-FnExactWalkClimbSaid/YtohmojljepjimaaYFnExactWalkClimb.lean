/- The triple of the law FnExactWalkClimb: for all arguments it returns true; its cases: a heap too great, valid arguments, arguments that are not valid. -/
import Derived.Test.Ytohmojljepjimaaqwalk1
namespace Go.Sep.Walks
set_option linter.unusedVariables false
set_option linter.unusedSimpArgs false
open Go Go.Sep Go.Proofs
theorem fnExactWalkClimb_fn (X Y Z : Int) (zs : List Int) (c : Value) (ws : List Int) (c2 : Value) (H : Heap) (n : Nat) (g : good [X, Y, Z]) (gz : good zs) (gw : good ws) (r : RowV H n 3 c zs) (r2 : RowV H n 1 c2 ws) :
    Fn Try.prog 5 [.agg #[.int .i64 X, .int .i64 Y, .int .i64 Z, c], c2] H n (.bool true) H n := by
  obtain ⟨hr, hmax⟩ := r.cells
  obtain ⟨hr2, hmax2⟩ := r2.ints1
  by_cases hlen : (trip zs).length ≤ 1048576
  · exact laws_FnExactWalkClimb_ok X Y Z c (trip zs) n c2 ws H n hr (Nat.le_refl _) hlen hr2
  · exact laws_FnExactWalkClimb_big X Y Z c (trip zs) n c2 ws H n hr (Nat.le_refl _) hlen hmax hr2
end Go.Sep.Walks
