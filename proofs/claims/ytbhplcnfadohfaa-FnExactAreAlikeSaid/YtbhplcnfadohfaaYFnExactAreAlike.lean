/- The triple of the law FnExactAreAlike: for all arguments it returns true; its cases: a heap too great, valid arguments, arguments that are not valid. -/
import Derived.Test.Ytbhplcnfadohfaaqarea1
namespace Go.Sep.Walks
set_option linter.unusedVariables false
set_option linter.unusedSimpArgs false
open Go Go.Sep Go.Proofs
theorem fnExactAreAlike_fn (X Y Z : Int) (zs : List Int) (c : Value) (X2 Y2 Z2 : Int) (ws : List Int) (c2 : Value) (p q : Int) (H : Heap) (n : Nat) (g : good [X, Y, Z]) (gz : good zs) (g2 : good [X2, Y2, Z2]) (gw : good ws) (gp : -9223372036854775808 ≤ p ∧ p ≤ 9223372036854775807) (gq : -9223372036854775808 ≤ q ∧ q ≤ 9223372036854775807) (r : RowV H n 3 c zs) (r2 : RowV H n 3 c2 ws) :
    Fn Try.prog 4 [.agg #[.int .i64 X, .int .i64 Y, .int .i64 Z, c], .agg #[.int .i64 X2, .int .i64 Y2, .int .i64 Z2, c2], .int .i64 p, .int .i64 q] H n (.bool true) H n := by
  obtain ⟨hr, hmax⟩ := r.cells
  obtain ⟨hr2, hmax2⟩ := r2.cells
  by_cases hlen : (trip zs).length ≤ 1048576
  · by_cases htot : (trip zs).length + (trip ws).length ≤ 1048576
    · cases hh : (boxes X Y Z (trip zs) X2 Y2 Z2 (trip ws) && dirs2 p q) with
      | true =>
        rw [Bool.and_eq_true] at hh
        obtain ⟨hb, hd⟩ := hh
        obtain ⟨p', q', rfl, rfl, hp, hq, hpq⟩ := dirs_of hd
        simp only [boxes, Bool.and_eq_true, decide_eq_true_eq] at hb
        obtain ⟨⟨h1, h2⟩, rfl, rfl, rfl⟩ := hb
        exact laws_FnExactAreAlike_ok X Y Z c (trip zs) n X Y Z c2 (trip ws) p' q' H n hr (Nat.le_refl _) hr2 hlen htot ⟨rfl, rfl, rfl⟩ h1 h2 hp hq hpq
      | false => exact laws_FnExactAreAlike_no X Y Z c (trip zs) n X2 Y2 Z2 c2 (trip ws) p q H n hr (Nat.le_refl _) hr2 hlen htot hh
    · exact laws_FnExactAreAlike_bigs X Y Z c (trip zs) n X2 Y2 Z2 c2 (trip ws) p q H n hr (Nat.le_refl _) hr2 hlen htot hmax2
  · exact laws_FnExactAreAlike_big X Y Z c (trip zs) n X2 Y2 Z2 c2 (trip ws) p q H n hr (Nat.le_refl _) hr2 hlen hmax
end Go.Sep.Walks
