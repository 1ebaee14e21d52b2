/- The triple of the law FnExactLinesWith: for all arguments it returns true; its cases: a heap too great, valid arguments, arguments that are not valid. -/
import Derived.Test.Ytejicbppanhbjaaqline1
namespace Go.Sep.Walks
set_option linter.unusedVariables false
set_option linter.unusedSimpArgs false
open Go Go.Sep Go.Proofs
theorem fnExactLinesWith_fn (X Y Z : Int) (zs : List Int) (c : Value) (a : Int) (H : Heap) (n : Nat) (g : good [X, Y, Z]) (gz : good zs) (ga : -9223372036854775808 ≤ a ∧ a ≤ 9223372036854775807) (r : RowV H n 3 c zs) :
    Fn Try.prog 6 [.agg #[.int .i64 X, .int .i64 Y, .int .i64 Z, c], .int .i64 a] H n (.bool true) H n := by
  obtain ⟨hr, hmax⟩ := r.cells
  by_cases hlen : (trip zs).length ≤ 1048576
  · cases hh : (isHeap X Y Z (trip zs) && within a 0 2) with
    | true =>
      rw [Bool.and_eq_true] at hh
      have ha := hh.2
      simp only [within, Bool.and_eq_true, decide_eq_true_eq] at ha
      obtain ⟨p, rfl⟩ : ∃ p : Nat, a = p := ⟨a.toNat, by omega⟩
      exact laws_FnExactLinesWith_ok X Y Z c (trip zs) n p H n hr (Nat.le_refl _) hlen hh.1 (by omega)
    | false => exact laws_FnExactLinesWith_no X Y Z c (trip zs) n a H n hr (Nat.le_refl _) hlen hh
  · exact laws_FnExactLinesWith_big X Y Z c (trip zs) n a H n hr (Nat.le_refl _) hlen hmax
end Go.Sep.Walks
