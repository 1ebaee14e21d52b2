/- What is seen along a row; rows turned round in place. -/
import Derived.Test.YtkfhblkjllbejaaSky
namespace Go.Sep
open Go
set_option linter.unusedVariables false
set_option linter.unusedSimpArgs false

theorem res0 {P : Program} {s : St} : resOf P s [] = some (.tuple #[]) := rfl
theorem at1_get {L : List Int} {m : Nat} (h : m < L.length) : at1 L m = L[m] := by
  simp only [at1, List.getD_eq_getElem?_getD, List.getElem?_eq_getElem h, Option.getD_some]
def revN (L : List Int) (i : Nat) : List Int := (List.range L.length).map fun m => if m < i ∨ L.length ≤ m + i then at1 L (L.length - 1 - m) else at1 L m
theorem revN_length (L : List Int) (i : Nat) : (revN L i).length = L.length := by simp [revN]
theorem revN_get {L : List Int} {i m : Nat} (h : m < (revN L i).length) : (revN L i)[m] = if m < i ∨ L.length ≤ m + i then at1 L (L.length - 1 - m) else at1 L m := by
  simp only [revN, List.getElem_map, List.getElem_range]
theorem revN_zero (L : List Int) : revN L 0 = L := by
  refine List.ext_getElem (revN_length L 0) fun m h1 h2 => ?_
  rw [revN_get h1, if_neg (by omega), at1_get h2]
theorem revN_same {L : List Int} {i m : Nat} (hm : m < L.length) (h : ¬ (m < i ∨ L.length ≤ m + i)) : at1 (revN L i) m = at1 L m := by
  have h1 : m < (revN L i).length := by rw [revN_length]; exact hm
  rw [at1_get h1, revN_get h1, if_neg h]
theorem revN_set {L : List Int} {i : Nat} (h : 2 * i + 1 < L.length) : ((revN L i).set i (at1 L (L.length - 1 - i))).set (L.length - 1 - i) (at1 L i) = revN L (i + 1) := by
  refine List.ext_getElem (by simp [revN]) fun m h1 h2 => ?_
  rw [revN_get h2, List.getElem_set, List.getElem_set]
  have hm : m < L.length := by rw [revN_length] at h2; exact h2
  by_cases e : L.length - 1 - i = m
  · rw [if_pos e, if_pos (by omega)]; congr 1; omega
  · rw [if_neg e]
    by_cases e2 : i = m
    · rw [if_pos e2, if_pos (by omega), e2]
    · rw [if_neg e2, revN_get]
      by_cases e3 : m < i ∨ L.length ≤ m + i
      · rw [if_pos e3, if_pos (by omega)]
      · rw [if_neg e3, if_neg (by omega)]
theorem revN_end {L : List Int} {i : Nat} (h : L.length ≤ 2 * i + 1) : revN L i = L.reverse := by
  refine List.ext_getElem (by simp [revN]) fun m h1 h2 => ?_
  have hm : m < L.length := by rw [revN_length] at h1; exact h1
  rw [revN_get h1, List.getElem_reverse]
  by_cases e : m < i ∨ L.length ≤ m + i
  · rw [if_pos e, at1_get (by omega)]
  · rw [if_neg e, at1_get hm]
    congr 1; omega
theorem rev_at {L : List Int} {m : Nat} (h : m < L.length) : at1 L.reverse m = at1 L (L.length - 1 - m) := by
  rw [at1_get (by simpa using h), List.getElem_reverse, at1_get (by omega)]
def sgL (bk : Bool) (L : List Int) : List Int := if bk then L.reverse else L
theorem sgL_length (bk : Bool) (L : List Int) : (sgL bk L).length = L.length := by cases bk <;> simp [sgL]
theorem sg_T {bk : Bool} {L : List Int} (h : bk = true) : sgL bk L = L.reverse := by subst h; rfl
theorem sg_F {bk : Bool} {L : List Int} (h : bk = false) : sgL bk L = L := by subst h; rfl
def seen (L : List Int) : Nat → Int
  | 0 => 0
  | i + 1 => if mx0 L i < at1 L i then seen L i + 1 else seen L i
theorem seen_T {L : List Int} {i : Nat} (h : mx0 L i < at1 L i) : seen L i + 1 = seen L (i + 1) := by simp only [seen, if_pos h]
theorem seen_F {L : List Int} {i : Nat} (h : ¬ mx0 L i < at1 L i) : seen L i = seen L (i + 1) := by simp only [seen, if_neg h]
theorem mx_T {L : List Int} {i : Nat} (hi : i < L.length) (h : mx0 L i < at1 L i) : at1 L i = mx0 L (i + 1) := by rw [← mx0_succ hi]; omega
theorem mx_F {L : List Int} {i : Nat} (hi : i < L.length) (h : ¬ mx0 L i < at1 L i) : mx0 L i = mx0 L (i + 1) := by rw [← mx0_succ hi]; omega
theorem seen_bd (L : List Int) : ∀ i : Nat, 0 ≤ seen L i ∧ seen L i ≤ (i : Int)
  | 0 => by simp [seen]
  | i + 1 => by have := seen_bd L i; simp only [seen]; split <;> omega
def sgtM (X Y Z : Int) (T : List Int) (d : Nat) (bk : Bool) (i : Nat) : List Int := (List.range i).map fun w => seen (sgL bk (skyL X Y Z T d w)) (skyL X Y Z T d w).length
theorem sgtM_zero (X Y Z : Int) (T : List Int) (d : Nat) (bk : Bool) : sgtM X Y Z T d bk 0 = [] := rfl
theorem sgtM_succ (X Y Z : Int) (T : List Int) (d : Nat) (bk : Bool) (i : Nat) : sgtM X Y Z T d bk (i + 1) = sgtM X Y Z T d bk i ++ [seen (sgL bk (skyL X Y Z T d i)) (skyL X Y Z T d i).length] := by simp [sgtM, List.range_succ]
theorem sgtM_length (X Y Z : Int) (T : List Int) (d : Nat) (bk : Bool) (i : Nat) : (sgtM X Y Z T d bk i).length = i := by simp [sgtM]
end Go.Sep
