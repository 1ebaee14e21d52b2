/- Pieces: the forms that the walks need. -/
import Derived.Test.YtkfhblkjllbejaaPieces
namespace Go.Sep
open Go
set_option linter.unusedVariables false
set_option linter.unusedSimpArgs false

theorem at3_map {f : C → C} {cs : List C} {i : Nat} (h : i < cs.length) : at3 (cs.map f) i = f (at3 cs i) := by
  simp [at3, List.getElem?_eq_getElem h]
theorem fitC_no1 {X Y Z : Int} {cs : List C} {a c : C} (h : inBox X Y Z (addC c a) = false) : fitC X Y Z cs a c = false := by simp only [fitC, h, Bool.false_and]
theorem fitC_no2 {X Y Z : Int} {cs : List C} {a c : C} (h : addC c a ∈ cs) : fitC X Y Z cs a c = false := by simp only [fitC, decide_eq_true h, Bool.not_true, Bool.and_false]
theorem fitC_yes {X Y Z : Int} {cs : List C} {a c : C} (h : inBox X Y Z (addC c a) = true) (h2 : ¬ addC c a ∈ cs) : fitC X Y Z cs a c = true := by simp only [fitC, h, decide_eq_false h2, Bool.not_false, Bool.and_self]
def placeS (X Y Z : Int) (cs ps : List C) (a : C) : BitVec 64 := if fitAt X Y Z cs ps a then maskN Y Z (ps.map fun c => addC c a) ps.length else 0#64
theorem place_no {X Y Z : Int} {cs ps : List C} {a : C} (h : fitAt X Y Z cs ps a = false) : Value.tuple #[U (placeS X Y Z cs ps a), .bool (fitAt X Y Z cs ps a)] = .tuple #[U 0#64, .bool false] := by
  rw [placeS, h]; rfl
theorem place_yes {X Y Z : Int} {cs ps : List C} {a : C} (h : fitAt X Y Z cs ps a = true) : Value.tuple #[U (placeS X Y Z cs ps a), .bool (fitAt X Y Z cs ps a)] = .tuple #[U (maskN Y Z (ps.map fun c => addC c a) ps.length), .bool true] := by
  rw [placeS, h]; rfl
theorem fit_04w {X Y Z : Int} {cs ps : List C} {a : C} (hX : Box X Y Z) (hp : Piece ps) (ha : (0 ≤ a.1 ∧ a.1 ≤ 4) ∧ (0 ≤ a.2.1 ∧ a.2.1 ≤ 4) ∧ (0 ≤ a.2.2 ∧ a.2.2 ≤ 4)) {b : Bool} (h : (ps.all fun c => fitC X Y Z cs a c) = b) : fitAt X Y Z cs ps a = b := (fit_04 hX hp ha).symm.trans h
theorem fit_3w {X Y Z : Int} {cs ps : List C} {a : C} (ha : in3 a = true) {b : Bool} (h : (ps.all fun c => fitC X Y Z cs a c) = b) : fitAt X Y Z cs ps a = b := (fit_yes ha).trans h
theorem within_15 {ps : List C} (h : within ((ps.length : Nat) : Int) 1 5 = true) : 1 ≤ ps.length ∧ ps.length ≤ 5 := by
  simp [within] at h; omega
theorem within_15n {ps : List C} (h : within ((ps.length : Nat) : Int) 1 5 = false) : pieceB ps = false := by
  refine pieceB_no0 fun g => ?_
  have : within ((ps.length : Nat) : Int) 1 5 = true := by simp [within]; omega
  rw [this] at h; simp at h
theorem mix_minL {a c : C} {k : Nat} (hk : k < 3) : (tri (mixC a (minC a c) k)).set (0 + k * 1) (.int .i64 (min (ci (mixC a (minC a c) k) k) (ci c k))) = tri (mixC a (minC a c) (k + 1)) := mix_min hk
theorem isPk_no {X Y Z : Int} {cs ps : List C} (h : isHeap X Y Z cs = true) (g : (isHeap X Y Z cs && pieceB ps) = false) : pieceB ps = false := by rw [h, Bool.true_and] at g; exact g
def fits (X Y Z : Int) (cs ps : List C) : List C := (allC X Y Z).filter (fitAt X Y Z cs ps)
end Go.Sep
