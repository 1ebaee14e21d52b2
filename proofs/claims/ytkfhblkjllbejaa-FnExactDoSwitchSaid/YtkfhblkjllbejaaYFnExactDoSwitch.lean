/- The triple of the law FnExactDoSwitch: for all arguments it returns true; its cases: a heap too great, valid arguments, arguments that are not valid. -/
import Derived.Test.Ytkfhblkjllbejaaqdosw2
namespace Go.Sep.Walks
set_option linter.unusedVariables false
set_option linter.unusedSimpArgs false
open Go Go.Sep Go.Proofs
theorem fnExactDoSwitch_fn (X Y Z : Int) (zs : List Int) (c : Value) (p q : Int) (us : List Int) (H : Heap) (n : Nat) (g : good [X, Y, Z]) (gz : good zs) (gp : -9223372036854775808 ≤ p ∧ p ≤ 9223372036854775807) (gq : -9223372036854775808 ≤ q ∧ q ≤ 9223372036854775807) (hul : us.length = 5) (gu : good us) (r : RowV H n 3 c zs) :
    Fn Try.prog 7 [.agg #[.int .i64 X, .int .i64 Y, .int .i64 Z, c], .int .i64 p, .int .i64 q, .agg (ints us).toArray] H n (.bool true) H n := by
  obtain ⟨x1, x2, x3, x4, x5, rfl⟩ : ∃ x1 x2 x3 x4 x5, us = [x1, x2, x3, x4, x5] := by
    match us, hul with
    | [a, b, c, d, e], _ => exact ⟨a, b, c, d, e, rfl⟩
  obtain ⟨hr, hmax⟩ := r.cells
  by_cases hlen : (trip zs).length ≤ 1048576
  · cases hh : (isHeap X Y Z (trip zs) && dirs2 p q && swB X Y Z (trip zs) (x1, x2, x3) p.toNat q.toNat x4 x5) with
    | true =>
      rw [Bool.and_eq_true, Bool.and_eq_true] at hh
      obtain ⟨p', q', rfl, rfl, hp, hq, hpq⟩ := dirs_of hh.1.2
      have hsw := hh.2
      rw [Int.toNat_natCast, Int.toNat_natCast] at hsw
      exact laws_FnExactDoSwitch_ok X Y Z c (trip zs) n p' q' (x1, x2, x3) x4 x5 H n hr (Nat.le_refl _) hlen hh.1.1 hp hq hpq hsw
    | false => exact laws_FnExactDoSwitch_no X Y Z c (trip zs) n p q (x1, x2, x3) x4 x5 H n hr (Nat.le_refl _) hlen hh
  · exact laws_FnExactDoSwitch_big X Y Z c (trip zs) n p q (x1, x2, x3) x4 x5 H n hr (Nat.le_refl _) hlen hmax
end Go.Sep.Walks
