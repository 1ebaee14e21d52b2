/- The least box. -/
import Derived.Test.YtkfhblkjllbejaaSets2
namespace Go.Sep
open Go
set_option linter.unusedVariables false
set_option linter.unusedSimpArgs false

def minC (a b : C) : C := (min a.1 b.1, min a.2.1 b.2.1, min a.2.2 b.2.2)
def maxC (a b : C) : C := (max a.1 b.1, max a.2.1 b.2.1, max a.2.2 b.2.2)
def lowN (cs : List C) (i : Nat) : C := (cs.take i).foldl minC (at3 cs 0)
def hghN (cs : List C) (i : Nat) : C := (cs.take i).foldl maxC (at3 cs 0)
theorem lowN_zero (cs : List C) : lowN cs 0 = at3 cs 0 := rfl
theorem hghN_zero (cs : List C) : hghN cs 0 = at3 cs 0 := rfl
theorem lowN_succ {cs : List C} {i : Nat} (h : i < cs.length) : minC (lowN cs i) (at3 cs i) = lowN cs (i + 1) := by
  unfold lowN; rw [take_succ3 h, List.foldl_append]; rfl
theorem hghN_succ {cs : List C} {i : Nat} (h : i < cs.length) : maxC (hghN cs i) (at3 cs i) = hghN cs (i + 1) := by
  unfold hghN; rw [take_succ3 h, List.foldl_append]; rfl
/-- The first numbers of one cell, the others of another one. -/
def mixC (a b : C) (k : Nat) : C := (if 0 < k then b.1 else a.1, if 1 < k then b.2.1 else a.2.1, if 2 < k then b.2.2 else a.2.2)
theorem mix_zero (a b : C) : mixC a b 0 = a := rfl
theorem mix_end (a b : C) {k : Nat} (h : k = 3) : mixC a b k = b := by subst h; rfl
theorem mix_min {a c : C} {k : Nat} (hk : k < 3) : (tri (mixC a (minC a c) k)).set (0 + k * 1) (.int .i64 (min (ci (mixC a (minC a c) k) k) (ci c k))) = tri (mixC a (minC a c) (k + 1)) := by
  obtain rfl | rfl | rfl : k = 0 ∨ k = 1 ∨ k = 2 := by omega
  all_goals rfl
theorem mix_max {a c : C} {k : Nat} (hk : k < 3) : (tri (mixC a (maxC a c) k)).set (0 + k * 1) (.int .i64 (max (ci (mixC a (maxC a c) k) k) (ci c k))) = tri (mixC a (maxC a c) (k + 1)) := by
  obtain rfl | rfl | rfl : k = 0 ∨ k = 1 ∨ k = 2 := by omega
  all_goals rfl
theorem lowN_bd {X Y Z : Int} {cs : List C} (hv : Valid X Y Z cs) (hne : 0 < cs.length) : ∀ i, i ≤ cs.length → In X Y Z (lowN cs i) ∧ ∀ k, k < i → leC (lowN cs i) (at3 cs k) = true
  | 0, _ => ⟨hv.inn _ (at3_mem hne), fun k hk => absurd hk (by omega)⟩
  | i + 1, h => by
    obtain ⟨h1, h2⟩ := lowN_bd hv hne i (by omega)
    have hc := hv.inn _ (at3_mem (show i < cs.length by omega))
    rw [← lowN_succ (by omega)]
    simp only [In, minC] at *
    refine ⟨by omega, fun k hk => ?_⟩
    rcases Nat.lt_or_ge k i with g | g
    · have := h2 k g
      simp only [leC, Bool.and_eq_true, decide_eq_true_eq] at *
      omega
    · obtain rfl : k = i := by omega
      simp only [leC, Bool.and_eq_true, decide_eq_true_eq]
      omega
theorem hghN_bd {X Y Z : Int} {cs : List C} (hv : Valid X Y Z cs) (hne : 0 < cs.length) : ∀ i, i ≤ cs.length → In X Y Z (hghN cs i) ∧ ∀ k, k < i → leC (at3 cs k) (hghN cs i) = true
  | 0, _ => ⟨hv.inn _ (at3_mem hne), fun k hk => absurd hk (by omega)⟩
  | i + 1, h => by
    obtain ⟨h1, h2⟩ := hghN_bd hv hne i (by omega)
    have hc := hv.inn _ (at3_mem (show i < cs.length by omega))
    rw [← hghN_succ (by omega)]
    simp only [In, maxC] at *
    refine ⟨by omega, fun k hk => ?_⟩
    rcases Nat.lt_or_ge k i with g | g
    · have := h2 k g
      simp only [leC, Bool.and_eq_true, decide_eq_true_eq] at *
      omega
    · obtain rfl : k = i := by omega
      simp only [leC, Bool.and_eq_true, decide_eq_true_eq]
      omega
def negC (c : C) : C := (0 - c.1, 0 - c.2.1, 0 - c.2.2)
def cropS (lo hi : C) : C := (hi.1 - lo.1 + 1, hi.2.1 - lo.2.1 + 1, hi.2.2 - lo.2.2 + 1)
theorem crop_sides (lo hi : C) : addC (addC hi (negC lo)) (1, 1, 1) = cropS lo hi := by
  simp only [addC, negC, cropS, Prod.mk.injEq]; omega
theorem crop_box {X Y Z : Int} {cs : List C} (hv : Valid X Y Z cs) (hne : 0 < cs.length) : Box (cropS (lowN cs cs.length) (hghN cs cs.length)).1 (cropS (lowN cs cs.length) (hghN cs cs.length)).2.1 (cropS (lowN cs cs.length) (hghN cs cs.length)).2.2 := by
  obtain ⟨h1, h2⟩ := lowN_bd hv hne _ (Nat.le_refl _)
  obtain ⟨h3, h4⟩ := hghN_bd hv hne _ (Nat.le_refl _)
  have e1 := h2 0 hne
  have e2 := h4 0 hne
  have hX := hv.box
  simp only [leC, Bool.and_eq_true, decide_eq_true_eq, In, Box, cropS] at *
  omega
theorem crop_in {X Y Z : Int} {cs : List C} (hv : Valid X Y Z cs) (hne : 0 < cs.length) : ∀ c ∈ cs, In (cropS (lowN cs cs.length) (hghN cs cs.length)).1 (cropS (lowN cs cs.length) (hghN cs cs.length)).2.1 (cropS (lowN cs cs.length) (hghN cs cs.length)).2.2 (addC c (negC (lowN cs cs.length))) := by
  intro c hc
  obtain ⟨j, hj, rfl⟩ := mem_at3 hc
  have e1 := (lowN_bd hv hne _ (Nat.le_refl _)).2 j hj
  have e2 := (hghN_bd hv hne _ (Nat.le_refl _)).2 j hj
  simp only [leC, Bool.and_eq_true, decide_eq_true_eq, In, cropS, addC, negC] at *
  omega
theorem neg_small {X Y Z : Int} {c : C} (hX : Box X Y Z) (h : In X Y Z c) : Small (negC c) := by
  simp only [In, Small, negC, Box] at *; omega
end Go.Sep
