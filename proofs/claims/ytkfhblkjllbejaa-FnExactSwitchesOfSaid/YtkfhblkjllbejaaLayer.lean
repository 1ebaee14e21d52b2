/- Layers: tables of numbers. -/
import Derived.Test.YtkfhblkjllbejaaTabs
namespace Go.Sep
open Go
set_option linter.unusedVariables false
set_option linter.unusedSimpArgs false

/-- The cell of a layer. -/
def layC (p : Nat) (k i j : Int) : C := (if p = 0 then k else i, if p = 1 then k else if p = 0 then i else j, if p = 2 then k else j)
theorem lay1 {p : Nat} (hp : p < 3) (k : Int) : [Value.int .i64 0, Value.int .i64 0, Value.int .i64 0].set (0 + p * 1) (.int .i64 k) = tri (if p = 0 then k else 0, if p = 1 then k else 0, if p = 2 then k else 0) := by
  obtain rfl | rfl | rfl : p = 0 ∨ p = 1 ∨ p = 2 := by omega
  all_goals rfl
theorem lay2 {p : Nat} (hp : p < 3) (k i : Int) : (tri (if p = 0 then k else 0, if p = 1 then k else 0, if p = 2 then k else 0)).set (0 + o1 p * 1) (.int .i64 i) = tri (if p = 0 then k else i, if p = 1 then k else if p = 0 then i else 0, if p = 2 then k else 0) := by
  obtain rfl | rfl | rfl : p = 0 ∨ p = 1 ∨ p = 2 := by omega
  all_goals rfl
theorem lay3 {p : Nat} (hp : p < 3) (k i j : Int) : (tri (if p = 0 then k else i, if p = 1 then k else if p = 0 then i else 0, if p = 2 then k else 0)).set (0 + o2 p * 1) (.int .i64 j) = tri (layC p k i j) := by
  obtain rfl | rfl | rfl : p = 0 ∨ p = 1 ∨ p = 2 := by omega
  all_goals rfl
theorem lay_in {X Y Z : Int} {p : Nat} (hp : p < 3) {k i j : Int} (hk : 0 ≤ k ∧ k < ci (X, Y, Z) p) (hi : 0 ≤ i ∧ i < ci (X, Y, Z) (o1 p)) (hj : 0 ≤ j ∧ j < ci (X, Y, Z) (o2 p)) : In X Y Z (layC p k i j) := by
  obtain rfl | rfl | rfl : p = 0 ∨ p = 1 ∨ p = 2 := by omega
  · exact ⟨hk, hi, hj⟩
  · exact ⟨hi, hk, hj⟩
  · exact ⟨hi, hj, hk⟩
def layV (cs : List C) (p : Nat) (k i : Int) (j : Nat) : Int := if layC p k i (j : Int) ∈ cs then 1 else 0
def layN (cs : List C) (p : Nat) (k : Int) (i m : Nat) : List Int := (List.range m).map (layV cs p k (i : Int))
theorem layN_zero (cs : List C) (p : Nat) (k : Int) (i : Nat) : layN cs p k i 0 = [] := rfl
theorem layN_succ (cs : List C) (p : Nat) (k : Int) (i m : Nat) : layN cs p k i (m + 1) = layN cs p k i m ++ [layV cs p k i m] := by simp [layN, List.range_succ]
theorem layN_length (cs : List C) (p : Nat) (k : Int) (i m : Nat) : (layN cs p k i m).length = m := by simp [layN]
theorem layV_yes {cs : List C} {p : Nat} {k i : Int} {j : Nat} (h : layC p k i (j : Int) ∈ cs) : layV cs p k i j = 1 := if_pos h
theorem layV_no {cs : List C} {p : Nat} {k i : Int} {j : Nat} (h : ¬ layC p k i (j : Int) ∈ cs) : layV cs p k i j = 0 := if_neg h
/-- How many numbers the first rows have. -/
def preI (row : Nat → List Int) : Nat → Nat
  | 0 => 0
  | i + 1 => preI row i + (row i).length
theorem preI_bd {row : Nat → List Int} {M : Nat} : ∀ k, (∀ i, i < k → (row i).length ≤ M) → preI row k ≤ k * M
  | 0, _ => by simp [preI]
  | k + 1, h => by
    have h1 := preI_bd k (fun i hi => h i (by omega))
    have h2 := h k (by omega)
    simp only [preI, Nat.succ_mul]
    omega
theorem preI_le {row : Nat → List Int} {k : Nat} : ∀ i, i ≤ k → preI row i ≤ preI row k := by
  induction k with
  | zero =>
    intro i hi
    obtain rfl : i = 0 := by omega
    exact Nat.le_refl _
  | succ k ih =>
    intro i hi
    rcases Nat.lt_or_ge k i with h | h
    · obtain rfl : i = k + 1 := by omega
      exact Nat.le_refl _
    · exact Nat.le_trans (ih i h) (Nat.le_add_right _ _)
def mrkI (z : Int) (row : Nat → List Int) (i : Nat) : List Int := upto (z + ((preI row i : Nat) : Int)) (row i).length
theorem side_get {X Y Z : Int} {p : Nat} (hp : p < 3) : [Value.int .i64 X, Value.int .i64 Y, Value.int .i64 Z][((p : Nat) : Int).toNat * 1]? = some (.int .i64 (ci (X, Y, Z) p)) := by
  obtain rfl | rfl | rfl : p = 0 ∨ p = 1 ∨ p = 2 := by omega
  all_goals rfl
theorem dir_nat {p : Int} (h : within p 0 2 = true) : ∃ q : Nat, p = q ∧ q < 3 := by
  simp [within] at h; exact ⟨p.toNat, by omega, by omega⟩
def layOk (X Y Z : Int) (cs : List C) (p k : Int) : Bool := isHeap X Y Z cs && (within p 0 2 && within k 0 (ci (X, Y, Z) p.toNat - 1))
theorem layOk_no1 {X Y Z : Int} {cs : List C} {p : Nat} {k : Int} (h : layOk X Y Z cs p k = false) (hh : isHeap X Y Z cs = true) (hp : p < 3) : within k 0 (ci (X, Y, Z) p - 1) = false := by
  simp only [layOk, hh, within_dir hp, Bool.true_and, Int.toNat_natCast] at h; exact h
def layRow (X Y Z : Int) (cs : List C) (p : Nat) (k : Int) (i : Nat) : List Int := layN cs p k i (ci (X, Y, Z) (o2 p)).toNat
def layK (X Y Z : Int) (p : Nat) : Nat := (ci (X, Y, Z) (o1 p)).toNat
end Go.Sep
