/- The triple of the law FnExactSwapSides: for every heap and all numbers it returns true; its cases: a heap too great, valid arguments, arguments that are not. -/
import Derived.Test.Ytoojonccocgnhaag12
namespace Go.Sep.Walks
set_option linter.unusedVariables false
set_option linter.unusedSimpArgs false
open Go Go.Sep Go.Proofs
theorem fnExactSwapSides_fn (X Y Z : Int) (zs : List Int) (c : Value) (a b : Int) (H : Heap) (n : Nat) (g : good [X, Y, Z]) (gz : good zs) (ga : -9223372036854775808 ≤ a ∧ a ≤ 9223372036854775807) (gb : -9223372036854775808 ≤ b ∧ b ≤ 9223372036854775807)
    (r : RowV H n 3 c zs) : Fn Try.prog 5 [.agg #[.int .i64 X, .int .i64 Y, .int .i64 Z, c], .int .i64 a, .int .i64 b] H n (.bool true) H n := by
  obtain ⟨hr, hmax⟩ := r.cells
  by_cases hlen : (trip zs).length ≤ 1048576
  · cases hh : (isHeap X Y Z (trip zs) && within a 0 2 && within b 0 2) with
    | true =>
      simp only [Bool.and_eq_true] at hh
      have ha := hh.1.2
      have hb := hh.2
      simp [within] at ha hb
      obtain ⟨p, rfl⟩ : ∃ p : Nat, a = p := ⟨a.toNat, by omega⟩
      obtain ⟨q, rfl⟩ : ∃ q : Nat, b = q := ⟨b.toNat, by omega⟩
      exact laws_FnExactSwapSides_ok X Y Z c (trip zs) n p q H n hr (Nat.le_refl _) hlen hh.1.1 (by omega) (by omega)
    | false => exact laws_FnExactSwapSides_no X Y Z c (trip zs) n a b H n hr (Nat.le_refl _) hlen hh
  · exact laws_FnExactSwapSides_big X Y Z c (trip zs) n a b H n hr (Nat.le_refl _) hlen hmax
end Go.Sep.Walks
