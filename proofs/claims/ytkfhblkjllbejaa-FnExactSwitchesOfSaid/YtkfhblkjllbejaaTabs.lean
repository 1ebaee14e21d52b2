/- Tables: their rows written, one after the other. -/
import Derived.Test.YtkfhblkjllbejaaAlike
import Derived.Test.YtkfhblkjllbejaaParts
namespace Go.Sep
open Go
set_option linter.unusedVariables false
set_option linter.unusedSimpArgs false

variable {P : Program} {s : St}
theorem ext_skip {H : Heap} {n k y : Nat} {g : Nat → List Value} {c : Blk} (h : y < n ∨ n + k ≤ y) (hy : H y = some c) : ext H n k g y = some c := by
  unfold ext; rw [if_neg (by omega)]; exact hy
/-- The blocks of a table's rows. -/
def rowsL (b k : Nat) : List Nat := (List.range k).map fun i => b + 1 + i
@[simp] theorem mem_rowsL {b k x : Nat} : x ∈ rowsL b k ↔ b + 1 ≤ x ∧ x < b + 1 + k := by
  simp only [rowsL, List.mem_map, List.mem_range]
  constructor
  · rintro ⟨i, hi, rfl⟩; omega
  · exact fun h => ⟨x - (b + 1), by omega, by omega⟩
theorem Ends.vE {fn : Func} {H : Heap} {n m k : Nat} {g : Nat → List Value} {v v' : Value} (hmk : m + k ≤ n) (hle : ∀ x c, x < n → ¬ (m ≤ x ∧ x < m + k) → H x = some c → s.H x = some c) (hH : ∀ x, n ≤ x → H x = none)
    (hb : ∀ i, i < k → s.H (m + i) = some (.cells false (g i))) (hp : ∀ i, i < k → (g i).all plainA = true)
    (hv : ltT n v = true) (hres : resOf P s fn.results.toList = some v') (he : v' = v) : Ends P fn H n s v (ext H m k g) n := by
  subst he
  refine ⟨id, fun _ _ => rfl, by rw [hres]; congr 1; exact (renT_id _).symm, hv, fun x c hx => ?_, fun x y _ _ h => h⟩
  by_cases e : m ≤ x ∧ x < m + k
  · have h1 : ext H m k g x = some (.cells false (g (x - m))) := by unfold ext; rw [if_pos e]
    rw [h1] at hx
    obtain rfl := Option.some.inj hx
    refine .inr ⟨by omega, ?_⟩
    have h2 := hb (x - m) (by omega)
    rw [show m + (x - m) = x by omega] at h2
    simp only [id, h2]
    exact ⟨rfl, plain_ren (hp (x - m) (by omega)) _⟩
  · have h1 : ext H m k g x = H x := by unfold ext; rw [if_neg e]
    rw [h1] at hx
    have hlt : x < n := by
      rcases Nat.lt_or_ge x n with q | q
      · exact q
      · rw [hH x q] at hx; simp at hx
    exact .inl ⟨hlt, hx, hle x c hlt e hx⟩
/-- How many cells the first rows have. -/
def preN (row : Nat → List C) : Nat → Nat
  | 0 => 0
  | i + 1 => preN row i + (row i).length
theorem preN_le {row : Nat → List C} {k : Nat} : ∀ i, i ≤ k → preN row i ≤ preN row k := by
  induction k with
  | zero =>
    intro i hi
    obtain rfl : i = 0 := by omega
    exact Nat.le_refl _
  | succ k ih =>
    intro i hi
    rcases Nat.lt_or_ge k i with h | h
    · obtain rfl : i = k + 1 := by omega
      exact Nat.le_refl _
    · exact Nat.le_trans (ih i h) (Nat.le_add_right _ _)
theorem preN_row {row : Nat → List C} {k i : Nat} (h : i < k) : (row i).length ≤ preN row k := Nat.le_trans (Nat.le_add_left _ _) (preN_le (row := row) (i + 1) h)
/-- A row's mark. -/
def mrkR (z : Int) (row : Nat → List C) (i : Nat) : List C := markC (z + 3 * ((preN row i : Nat) : Int)) (row i).length
theorem preN_bd {row : Nat → List C} {M : Nat} : ∀ k, (∀ i, i < k → (row i).length ≤ M) → preN row k ≤ k * M
  | 0, _ => by simp [preN]
  | k + 1, h => by
    have h1 := preN_bd k (fun i hi => h i (by omega))
    have h2 := h k (by omega)
    simp only [preN, Nat.succ_mul]
    omega
/-- Some sets, in a block. -/
def usV (f : Nat → BitVec 64) (k : Nat) : List Value := (List.range k).map fun i => U (f i)
theorem usV_length (f : Nat → BitVec 64) (k : Nat) : (usV f k).length = k := by simp [usV]
theorem usV_snoc (f : Nat → BitVec 64) (k : Nat) : usV f k ++ [U (f k)] = usV f (k + 1) := by simp [usV, List.range_succ]
theorem usV_at {f : Nat → BitVec 64} {k i : Nat} (h : i < k) : (usV f k)[0 + i * 1]? = some (U (f i)) := by simp [usV, h]
theorem usV_plain (f : Nat → BitVec 64) (k : Nat) : (usV f k).all plainA = true := by simp [usV, plainA, U]
theorem mask_nil {X Y Z : Int} {L : List C} (hv : Valid X Y Z L) (h : mask Y Z L = 0#64) : L.length = 0 := by
  cases L with
  | nil => rfl
  | cons c L =>
    have h1 := (rep_mask hv).has (hv.inn c (by simp))
    rw [h] at h1
    simp at h1
theorem mask_some {X Y Z : Int} {L : List C} (hv : Valid X Y Z L) (h : ¬ mask Y Z L = 0#64) : 0 < L.length := by
  cases L with
  | nil => exact absurd rfl h
  | cons c L => simp
theorem left_mask {X Y Z : Int} {L : List C} (hv : Valid X Y Z L) (k : Nat) : mask Y Z (leftN L k) &&& ~~~ mask Y Z (partN L k) = mask Y Z (leftN L (k + 1)) := by
  have h := (rep_mask (leftN_valid hv k)).diff (rep_mask (partN_valid hv k))
  exact h.toMask
theorem rep_one {X Y Z : Int} (hX : Box X Y Z) {c : C} (hc : In X Y Z c) : Rep X Y Z (1#64 <<< cellIx Y Z c) [c] := by
  have hv : Valid X Y Z [c] := ⟨hX, fun d hd => by rw [List.mem_singleton.mp hd]; exact hc, List.pairwise_singleton _ _⟩
  have h := rep_mask hv
  have e : mask Y Z [c] = 1#64 <<< cellIx Y Z c := by
    show 0#64 ||| 1#64 <<< cellIx Y Z c = _
    simp
  rw [e] at h; exact h
theorem rep_first {X Y Z : Int} {s : BitVec 64} {L : List C} (h : Rep X Y Z s L) (hne : 0 < L.length) : Rep X Y Z (s &&& -s) [at3 L 0] := by
  rw [rep_low h hne]; exact rep_one h.valid.box (h.valid.inn _ (at3_mem hne))
end Go.Sep
