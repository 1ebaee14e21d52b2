/- Columns next to each other. -/
import Derived.Test.YtkfhblkjllbejaaSets7
namespace Go.Sep
open Go
set_option linter.unusedVariables false
set_option linter.unusedSimpArgs false

/-- The neighbours of a column, as the program lists them. -/
def nearL (Y : Int) (m p : Nat) : List Int :=
  (if Y ≤ (p : Int) then [(p : Int) - Y] else []) ++ ((if 0 < (p : Int).tmod Y then [(p : Int) - 1] else []) ++ ((if (p : Int).tmod Y < Y - 1 then [(p : Int) + 1] else []) ++ (if (p : Int) + Y < (m : Int) then [(p : Int) + Y] else [])))
def colC (Y : Int) (p : Nat) : C := ((p : Int).tdiv Y, (p : Int).tmod Y, 0)
def nextF (Y : Int) (p q : Nat) : Bool := decide (apartI (colC Y p) (colC Y q) = 1)
/-- Some numbers below another one, one after the other. -/
def filI (f : Nat → Bool) (i : Nat) : List Int := ((List.range i).filter f).map fun (j : Nat) => (j : Int)
theorem filI_zero (f : Nat → Bool) : filI f 0 = [] := rfl
theorem filI_T {f : Nat → Bool} {i : Nat} (h : f i = true) : filI f (i + 1) = filI f i ++ [(i : Int)] := by simp [filI, List.range_succ, List.filter_append, h]
theorem filI_F {f : Nat → Bool} {i : Nat} (h : f i = false) : filI f (i + 1) = filI f i := by simp [filI, List.range_succ, List.filter_append, h]
theorem filI_len (f : Nat → Bool) (i : Nat) : (filI f i).length ≤ i := by
  unfold filI; rw [List.length_map]; exact Nat.le_trans (List.length_filter_le _ _) (by simp)
theorem next_near {X Y Z : Int} (hX : Box X Y Z) {p : Nat} (hp : p < (X * Y).toNat) : filI (nextF Y p) (X * Y).toNat = nearL Y (X * Y).toNat p := by
  obtain ⟨hx, hy, _⟩ := hX
  obtain rfl | rfl | rfl | rfl : X = 1 ∨ X = 2 ∨ X = 3 ∨ X = 4 := by omega
  all_goals
    obtain rfl | rfl | rfl | rfl : Y = 1 ∨ Y = 2 ∨ Y = 3 ∨ Y = 4 := by omega
    all_goals
      revert p
      decide +kernel
theorem near_bd {X Y Z : Int} (hX : Box X Y Z) {p : Nat} (hp : p < (X * Y).toNat) : ∀ q ∈ nearL Y (X * Y).toNat p, 0 ≤ q ∧ q < ((X * Y).toNat : Int) := by
  rw [← next_near hX hp]
  intro q hq
  obtain ⟨j, hj, rfl⟩ := List.mem_map.mp hq
  have := (List.mem_filter.mp hj).1
  have : j < (X * Y).toNat := by simpa using this
  omega
theorem near_len (Y : Int) (m p : Nat) : (nearL Y m p).length ≤ 4 := by
  unfold nearL
  have h : ∀ (P : Prop) [Decidable P] (z : Int), (if P then [z] else []).length ≤ 1 := fun P _ z => by split <;> simp
  simp only [List.length_append]
  have h1 := h (Y ≤ (p : Int)) ((p : Int) - Y)
  have h2 := h (0 < (p : Int).tmod Y) ((p : Int) - 1)
  have h3 := h ((p : Int).tmod Y < Y - 1) ((p : Int) + 1)
  have h4 := h ((p : Int) + Y < (m : Int)) ((p : Int) + Y)
  omega
theorem at1_mem {zs : List Int} {j : Nat} (h : j < zs.length) : at1 zs j ∈ zs := by
  simp only [at1, List.getD, List.getElem?_eq_getElem h, Option.getD_some]
  exact List.getElem_mem h
theorem mem_at1 {zs : List Int} {z : Int} (h : z ∈ zs) : ∃ j, j < zs.length ∧ at1 zs j = z := by
  obtain ⟨j, hj, rfl⟩ := List.getElem_of_mem h
  exact ⟨j, hj, by simp [at1, List.getD, hj]⟩
/-- The first place at which something is so, or -1. -/
def idxI (f : Int → Bool) (zs : List Int) : Int := if zs.any f then (zs.findIdx f : Int) else -1
theorem idxI_at {f : Int → Bool} {zs : List Int} {i : Nat} (hi : i < zs.length) (hq : ∀ j, j < i → f (at1 zs j) = false) (h : f (at1 zs i) = true) : idxI f zs = (i : Int) := by
  unfold idxI
  rw [if_pos (List.any_eq_true.mpr ⟨_, at1_mem hi, h⟩)]
  congr 1
  rw [List.findIdx_eq hi]
  refine ⟨by simpa [at1, List.getD, hi] using h, fun j hj => ?_⟩
  have := hq j hj
  simpa [at1, List.getD, show j < zs.length by omega] using this
theorem idxI_no {f : Int → Bool} {zs : List Int} (hq : ∀ j, j < zs.length → f (at1 zs j) = false) : idxI f zs = -1 := by
  unfold idxI
  rw [if_neg]
  intro h
  obtain ⟨z, hz, e⟩ := List.any_eq_true.mp h
  obtain ⟨j, hj, rfl⟩ := mem_at1 hz
  rw [hq j hj] at e; simp at e
theorem idxI_any (f : Int → Bool) (zs : List Int) : decide (0 ≤ idxI f zs) = zs.any f := by
  unfold idxI
  cases h : zs.any f with
  | true => rw [if_pos rfl]; exact decide_eq_true (by omega)
  | false => rw [if_neg (by simp)]; rfl
/-- A peak. -/
def peakF (Y : Int) (hs : List Int) (p : Nat) : Bool := decide (0 < at1 hs p) && !((nearL Y hs.length p).any fun q => decide (at1 hs p ≤ at1 hs q.toNat))
def pkN (Y : Int) (hs : List Int) (p k : Nat) : Bool := decide (0 < at1 hs p) && ((nearL Y hs.length p).take k).all fun q => decide (at1 hs q.toNat < at1 hs p)
theorem pkN_zero (Y : Int) (hs : List Int) (p : Nat) : pkN Y hs p 0 = decide (0 < at1 hs p) := by simp [pkN]
theorem pkN_succ {Y : Int} {hs : List Int} {p k : Nat} (hk : k < (nearL Y hs.length p).length) : pkN Y hs p (k + 1) = (pkN Y hs p k && decide (at1 hs (at1 (nearL Y hs.length p) k).toNat < at1 hs p)) := by
  unfold pkN; rw [take_succ1 hk, List.all_append]; simp only [List.all_cons, List.all_nil, Bool.and_true, Bool.and_assoc]
theorem pkN_all (Y : Int) (hs : List Int) (p : Nat) {k : Nat} (hk : k = (nearL Y hs.length p).length) : pkN Y hs p k = peakF Y hs p := by
  subst hk
  unfold pkN peakF
  rw [List.take_length]
  congr 1
  generalize nearL Y hs.length p = l
  induction l with
  | nil => rfl
  | cons q l ih =>
    rw [List.all_cons, List.any_cons, Bool.not_or, ih]
    congr 1
    rw [Bool.eq_iff_iff]; simp
end Go.Sep
