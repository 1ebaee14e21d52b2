/- Two heaps that look alike from two directions. -/
import Derived.Test.YtkfhblkjllbejaaClear
namespace Go.Sep
open Go
set_option linter.unusedVariables false
set_option linter.unusedSimpArgs false

def dirs2 (a b : Int) : Bool := within a 0 2 && within b 0 2 && !decide (a = b)
def boxes (X Y Z : Int) (cs : List C) (X2 Y2 Z2 : Int) (ds : List C) : Bool := isHeap X Y Z cs && isHeap X2 Y2 Z2 ds && decide (X = X2 ∧ Y = Y2 ∧ Z = Z2)
theorem boxes_yes {X Y Z : Int} {cs ds : List C} (h : isHeap X Y Z cs = true) (h2 : isHeap X Y Z ds = true) : boxes X Y Z cs X Y Z ds = true := by simp [boxes, h, h2]
theorem dirs_yes {p q : Nat} (hp : p < 3) (hq : q < 3) (h : p ≠ q) : dirs2 (p : Int) (q : Int) = true := by
  simp [dirs2, within_dir hp, within_dir hq]; omega
theorem dirs_of {a b : Int} (h : dirs2 a b = true) : ∃ p q : Nat, a = p ∧ b = q ∧ p < 3 ∧ q < 3 ∧ p ≠ q := by
  simp [dirs2, within] at h
  exact ⟨a.toNat, b.toNat, by omega, by omega, by omega, by omega, by omega⟩
def alikeB (X Y Z : Int) (cs ds : List C) (p q : Nat) : Bool := decide (viewL X Y Z p cs = viewL X Y Z p ds) && decide (viewL X Y Z q cs = viewL X Y Z q ds)
end Go.Sep
