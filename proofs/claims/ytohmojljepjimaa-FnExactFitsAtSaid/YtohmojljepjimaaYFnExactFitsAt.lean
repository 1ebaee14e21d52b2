/- The triple of the law FnExactFitsAt: for all arguments it returns true; its cases: a heap too great, valid arguments, arguments that are not valid. -/
import Derived.Test.Ytohmojljepjimaaqfits1
namespace Go.Sep.Walks
set_option linter.unusedVariables false
set_option linter.unusedSimpArgs false
open Go Go.Sep Go.Proofs
theorem fnExactFitsAt_fn (X Y Z : Int) (zs : List Int) (c : Value) (ws : List Int) (c2 : Value) (us : List Int) (H : Heap) (n : Nat) (g : good [X, Y, Z]) (gz : good zs) (gw : good ws) (hul : us.length = 3) (gu : good us) (r : RowV H n 3 c zs) (r2 : RowV H n 3 c2 ws) :
    Fn Try.prog 3 [.agg #[.int .i64 X, .int .i64 Y, .int .i64 Z, c], c2, .agg (ints us).toArray] H n (.bool true) H n := by
  obtain ⟨hr, hmax⟩ := r.cells
  obtain ⟨hr2, hmax2⟩ := r2.cells
  obtain ⟨d1, d2, d3, rfl⟩ : ∃ d1 d2 d3, us = [d1, d2, d3] := by
    match us, hul with
    | [a, b, c], _ => exact ⟨a, b, c, rfl⟩
  by_cases hlen : (trip zs).length ≤ 1048576
  · by_cases htot : (trip zs).length + (trip ws).length ≤ 1048576
    · cases hh : (isHeap X Y Z (trip zs) && pieceB (trip ws)) with
      | true =>
        rw [Bool.and_eq_true] at hh
        exact laws_FnExactFitsAt_ok X Y Z c (trip zs) n c2 (trip ws) (d1, d2, d3) H n hr (Nat.le_refl _) hlen htot hr2 hh.1 hh.2
      | false => exact laws_FnExactFitsAt_no X Y Z c (trip zs) n c2 (trip ws) (d1, d2, d3) H n hr (Nat.le_refl _) hlen htot hr2 hh
    · exact laws_FnExactFitsAt_bigs X Y Z c (trip zs) n c2 (trip ws) (d1, d2, d3) H n hr (Nat.le_refl _) hlen htot hmax2 hr2
  · exact laws_FnExactFitsAt_big X Y Z c (trip zs) n c2 (trip ws) (d1, d2, d3) H n hr (Nat.le_refl _) hlen hmax hr2
end Go.Sep.Walks
