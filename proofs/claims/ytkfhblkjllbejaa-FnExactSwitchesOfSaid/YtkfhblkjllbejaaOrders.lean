/- The six orders of the directions. -/
import Derived.Test.YtkfhblkjllbejaaClimb
namespace Go.Sep
open Go
set_option linter.unusedVariables false
set_option linter.unusedSimpArgs false

def ORD : List C := [(0, 1, 2), (0, 2, 1), (1, 0, 2), (1, 2, 0), (2, 0, 1), (2, 1, 0)]
def sameP (X Y Z : Int) (cs : List C) (p q r : Nat) : Bool := decide (X = (prm p q r (X, Y, Z)).1 ∧ Y = (prm p q r (X, Y, Z)).2.1 ∧ Z = (prm p q r (X, Y, Z)).2.2 ∧ cs = cellsOf (prm p q r (X, Y, Z)).1 (prm p q r (X, Y, Z)).2.1 (prm p q r (X, Y, Z)).2.2 (mask (prm p q r (X, Y, Z)).2.1 (prm p q r (X, Y, Z)).2.2 (cs.map (prm p q r))))
def ordF (X Y Z : Int) (cs : List C) (i : Nat) : Bool := sameP X Y Z cs (at3 ORD i).1.toNat (at3 ORD i).2.1.toNat (at3 ORD i).2.2.toNat
theorem ord_at {i : Nat} (h : i < 6) : ∃ p q r : Nat, p < 3 ∧ q < 3 ∧ r < 3 ∧ at3 ORD i = ((p : Int), (q : Int), (r : Int)) ∧ ∀ X Y Z cs, ordF X Y Z cs i = sameP X Y Z cs p q r := by
  obtain rfl | rfl | rfl | rfl | rfl | rfl : i = 0 ∨ i = 1 ∨ i = 2 ∨ i = 3 ∨ i = 4 ∨ i = 5 := by omega
  · exact ⟨0, 1, 2, by decide, by decide, by decide, rfl, fun _ _ _ _ => rfl⟩
  · exact ⟨0, 2, 1, by decide, by decide, by decide, rfl, fun _ _ _ _ => rfl⟩
  · exact ⟨1, 0, 2, by decide, by decide, by decide, rfl, fun _ _ _ _ => rfl⟩
  · exact ⟨1, 2, 0, by decide, by decide, by decide, rfl, fun _ _ _ _ => rfl⟩
  · exact ⟨2, 0, 1, by decide, by decide, by decide, rfl, fun _ _ _ _ => rfl⟩
  · exact ⟨2, 1, 0, by decide, by decide, by decide, rfl, fun _ _ _ _ => rfl⟩
/-- How many of the first numbers are so. -/
def cntF (f : Nat → Bool) : Nat → Int
  | 0 => 0
  | i + 1 => if f i then cntF f i + 1 else cntF f i
theorem cnt_T {f : Nat → Bool} {i : Nat} (h : f i = true) : cntF f i + 1 = cntF f (i + 1) := by simp [cntF, h]
theorem cnt_F {f : Nat → Bool} {i : Nat} (h : f i = false) : cntF f i = cntF f (i + 1) := by simp [cntF, h]
theorem cnt_bd (f : Nat → Bool) : ∀ i : Nat, 0 ≤ cntF f i ∧ cntF f i ≤ (i : Int)
  | 0 => by simp [cntF]
  | i + 1 => by have := cnt_bd f i; simp only [cntF]; split <;> omega
theorem same_flip {X Y Z A B D : Int} {cs ds : List C} : decide (A = X ∧ B = Y ∧ D = Z ∧ ds = cs) = decide (X = A ∧ Y = B ∧ Z = D ∧ cs = ds) := by
  rw [decide_eq_decide]; constructor <;> (rintro ⟨h1, h2, h3, h4⟩; exact ⟨h1.symm, h2.symm, h3.symm, h4.symm⟩)
end Go.Sep
