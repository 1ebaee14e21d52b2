/- The triple of the law FnExactLayerOf: for all arguments it returns true; its cases: a heap too great, valid arguments, arguments that are not valid. -/
import Derived.Test.Ytejicbppanhbjaaqlaye1
namespace Go.Sep.Walks
set_option linter.unusedVariables false
set_option linter.unusedSimpArgs false
open Go Go.Sep Go.Proofs
theorem fnExactLayerOf_fn (X Y Z : Int) (zs : List Int) (c : Value) (p k : Int) (H : Heap) (n : Nat) (g : good [X, Y, Z]) (gz : good zs) (gp : -9223372036854775808 ≤ p ∧ p ≤ 9223372036854775807) (gk : -9223372036854775808 ≤ k ∧ k ≤ 9223372036854775807) (r : RowV H n 3 c zs) :
    Fn Try.prog 13 [.agg #[.int .i64 X, .int .i64 Y, .int .i64 Z, c], .int .i64 p, .int .i64 k] H n (.bool true) H n := by
  obtain ⟨hr, hmax⟩ := r.cells
  by_cases hlen : (trip zs).length ≤ 1048576
  · cases hh : layOk X Y Z (trip zs) p k with
    | true =>
      simp only [layOk, Bool.and_eq_true] at hh
      obtain ⟨q, rfl, hq⟩ := dir_nat hh.2.1
      have h9 := hh.2.2
      rw [Int.toNat_natCast] at h9
      exact laws_FnExactLayerOf_ok X Y Z c (trip zs) n q k H n hr (Nat.le_refl _) hlen hh.1 hq (within_le h9)
    | false => exact laws_FnExactLayerOf_no X Y Z c (trip zs) n p k H n hr (Nat.le_refl _) hlen hh
  · exact laws_FnExactLayerOf_big X Y Z c (trip zs) n p k H n hr (Nat.le_refl _) hlen hmax
end Go.Sep.Walks
