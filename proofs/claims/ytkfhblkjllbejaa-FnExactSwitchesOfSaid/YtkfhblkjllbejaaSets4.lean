/- Shadows. -/
import Derived.Test.YtkfhblkjllbejaaSets3
import Derived.Test.YtkfhblkjllbejaaRules3
namespace Go.Sep
open Go
set_option linter.unusedVariables false
set_option linter.unusedSimpArgs false

/-! ### Lists of ones -/
def onesL (zs : List Int) : List Int := zs.map fun z => min z 1
def onesN (zs : List Int) (i : Nat) : List Int := onesL (zs.take i) ++ zs.drop i
theorem onesN_zero (zs : List Int) : onesN zs 0 = zs := by simp [onesN, onesL]
theorem onesN_all (zs : List Int) {i : Nat} (h : i = zs.length) : onesN zs i = onesL zs := by subst h; simp [onesN]
theorem onesN_length (zs : List Int) (i : Nat) : (onesN zs i).length = zs.length := by simp [onesN, onesL]; omega
theorem onesL_length (zs : List Int) : (onesL zs).length = zs.length := by simp [onesL]
theorem onesN_at {zs : List Int} {i : Nat} (h : i < zs.length) : at1 (onesN zs i) i = at1 zs i := by
  have h1 : (onesL (zs.take i)).length = i := by simp [onesL]; omega
  simp only [at1, List.getD, onesN]
  rw [List.getElem?_append_right (by omega), h1, Nat.sub_self, List.getElem?_drop]
  simp
theorem onesN_set {zs : List Int} {i : Nat} (h : i < zs.length) : (ints (onesN zs i)).set (0 + i * 1) (.int .i64 (min (at1 (onesN zs i) i) 1)) = ints (onesN zs (i + 1)) := by
  rw [ints_set, onesN_at h]
  congr 1
  have h1 : (onesL (zs.take i)).length = i := by simp [onesL]; omega
  unfold onesN
  rw [List.set_append_right _ _ (by omega), h1, Nat.sub_self, List.drop_eq_getElem_cons h, List.set_cons_zero, take_succ1 h]
  simp only [onesL, List.map_append, List.map_cons, List.map_nil, List.append_assoc, List.singleton_append]
theorem onesL_snoc {zs : List Int} {i : Nat} (h : i < zs.length) : onesL (zs.take (i + 1)) = onesL (zs.take i) ++ [min (at1 zs i) 1] := by
  rw [take_succ1 h]; simp [onesL]

/-! ### Three lists by direction -/
def upd (Q : Nat → Nat) (d q : Nat) : Nat → Nat := fun k => if k = d then q else Q k
theorem upd_same (Q : Nat → Nat) (d q : Nat) : upd Q d q d = q := if_pos rfl
theorem upd_ne {Q : Nat → Nat} {d q k : Nat} (h : k ≠ d) : upd Q d q k = Q k := if_neg h
def shV (Q : Nat → Nat) (ln : Nat → Nat) (d k : Nat) : Value := if k < d then .slice (some ⟨Q k, 0, none⟩) (ln k) 1 else .slice none 0 0
def shL (Q : Nat → Nat) (ln : Nat → Nat) (d : Nat) : List Value := [shV Q ln d 0, shV Q ln d 1, shV Q ln d 2]
theorem shL_get {Q ln : Nat → Nat} {d k : Nat} (hk : k < 3) (h : k < d) : (shL Q ln d)[0 + k * 1]? = some (.slice (some ⟨Q k, 0, none⟩) (ln k) 1) := by
  obtain rfl | rfl | rfl : k = 0 ∨ k = 1 ∨ k = 2 := by omega
  all_goals simp [shL, shV, h]
theorem shL_at {Q ln : Nat → Nat} {d q : Nat} (hd : d < 3) : (shL (upd Q d q) ln (d + 1))[0 + d * 1]? = some (.slice (some ⟨q, 0, none⟩) (ln d) 1) := by
  rw [shL_get hd (by omega), upd_same]
theorem shL_set {Q ln : Nat → Nat} {d q : Nat} (hd : d < 3) : (shL Q ln d).set (0 + d * 1) (.slice (some ⟨q, 0, none⟩) (ln d) 1) = shL (upd Q d q) ln (d + 1) := by
  obtain rfl | rfl | rfl : d = 0 ∨ d = 1 ∨ d = 2 := by omega
  all_goals simp [shL, shV, upd]
abbrev lnV (X Y Z : Int) (L : List C) : Nat → Nat := fun k => (viewL X Y Z k L).length
theorem nm0 {n : Nat} {f : Nat → Nat} : nm n 3 f n = f 0 := by simp [nm]
theorem nm1 {n : Nat} {f : Nat → Nat} : nm n 3 f (n + 1) = f 1 := by
  simp only [nm]; rw [if_neg (by omega), if_pos (by omega), show n + 1 - n = 1 by omega]
theorem nm2 {n : Nat} {f : Nat → Nat} : nm n 3 f (n + 1 + 1) = f 2 := by
  simp only [nm]; rw [if_neg (by omega), if_pos (by omega), show n + 1 + 1 - n = 2 by omega]
end Go.Sep
