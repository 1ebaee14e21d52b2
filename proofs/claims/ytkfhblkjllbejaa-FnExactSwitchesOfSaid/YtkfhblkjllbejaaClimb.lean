/- Walks over columns. -/
import Derived.Test.YtkfhblkjllbejaaPieces2
namespace Go.Sep
open Go
set_option linter.unusedVariables false
set_option linter.unusedSimpArgs false

def stepD (T ws : List Int) (i : Nat) : Int := at1 T (at1 ws i).toNat - at1 T (at1 ws (i - 1)).toNat
def wMax (T ws : List Int) : Nat → Int
  | 0 => 0
  | i + 1 => if i = 0 then 0 else max (wMax T ws i) (max (stepD T ws i) (-(stepD T ws i)))
def wSum (T ws : List Int) : Nat → Int
  | 0 => 0
  | i + 1 => if i = 0 then 0 else wSum T ws i + max (stepD T ws i) 0
theorem wMax_one (T ws : List Int) : wMax T ws 1 = 0 := rfl
theorem wSum_one (T ws : List Int) : wSum T ws 1 = 0 := rfl
theorem wMax_i {T ws : List Int} {i : Nat} (h : 0 < i) : max (wMax T ws i) (max (at1 T (at1 ws (i - 1)).toNat - at1 T (at1 ws i).toNat) (at1 T (at1 ws i).toNat - at1 T (at1 ws (i - 1)).toNat)) = wMax T ws (i + 1) := by
  simp only [wMax, if_neg (show ¬ i = 0 by omega), stepD]; omega
theorem wSum_i {T ws : List Int} {i : Nat} (h : 0 < i) : wSum T ws i + max 0 (at1 T (at1 ws i).toNat - at1 T (at1 ws (i - 1)).toNat) = wSum T ws (i + 1) := by
  simp only [wSum, if_neg (show ¬ i = 0 by omega), stepD]; omega
theorem wMax_s {T ws : List Int} {i : Nat} (h : 0 < i) : max (wMax T ws i) (max (at1 T (at1 ws i).toNat - at1 T (at1 ws (i - 1)).toNat) (0 - (at1 T (at1 ws i).toNat - at1 T (at1 ws (i - 1)).toNat))) = wMax T ws (i + 1) := by
  simp only [wMax, if_neg (show ¬ i = 0 by omega), stepD]; omega
theorem wSum_s {T ws : List Int} {i : Nat} (h : 0 < i) : wSum T ws i + max (at1 T (at1 ws i).toNat - at1 T (at1 ws (i - 1)).toNat) 0 = wSum T ws (i + 1) := by
  simp only [wSum, if_neg (show ¬ i = 0 by omega), stepD]
theorem wMax_z {T ws : List Int} {i : Nat} (h : i = 0) : wMax T ws i = wMax T ws (i + 1) := by subst h; rfl
theorem wSum_z {T ws : List Int} {i : Nat} (h : i = 0) : wSum T ws i = wSum T ws (i + 1) := by subst h; rfl
theorem wk_bd {T ws : List Int} (hb : ∀ j, 0 ≤ at1 T j ∧ at1 T j ≤ 4) : ∀ i : Nat, (0 ≤ wSum T ws i ∧ wSum T ws i ≤ 4 * (i : Int)) ∧ (0 ≤ wMax T ws i ∧ wMax T ws i ≤ 4)
  | 0 => by simp [wSum, wMax]
  | i + 1 => by
    have h := wk_bd hb (ws := ws) i
    have h1 := hb (at1 ws i).toNat
    have h2 := hb (at1 ws (i - 1)).toNat
    simp only [wSum, wMax, stepD]
    split <;> omega
def wOk (X Y : Int) (ws : List Int) (i : Nat) : Bool := within (at1 ws i) 0 (X * Y - 1) && (decide (i = 0) || decide (at1 ws i ∈ nearL Y (X * Y).toNat (at1 ws (i - 1)).toNat))
def walkB (X Y Z : Int) (cs : List C) (ws : List Int) : Bool := isHeap X Y Z cs && decide (0 < ws.length) && (List.range ws.length).all (wOk X Y ws)
def wkA (X Y Z : Int) (cs : List C) (ws : List Int) : Int := if walkB X Y Z cs ws then wMax (topsN X Y cs cs.length) ws ws.length else 0
def wkS (X Y Z : Int) (cs : List C) (ws : List Int) : Int := if walkB X Y Z cs ws then wSum (topsN X Y cs cs.length) ws ws.length else 0
def topB (X Y Z : Int) (cs : List C) (p : Int) (ws : List Int) : Bool := isHeap X Y Z cs && (decide (0 ≤ p) && ws.all fun z => within z 0 (X * Y - 1))
theorem within_le {a m : Int} (h : within a 0 (m - 1) = true) : 0 ≤ a ∧ a < m := by simp [within] at h; omega
theorem topB_yes {X Y Z : Int} {cs : List C} {p : Int} {ws : List Int} (h : topB X Y Z cs p ws = true) : isHeap X Y Z cs = true ∧ 0 ≤ p ∧ ∀ j, j < ws.length → 0 ≤ at1 ws j ∧ at1 ws j < X * Y := by
  simp only [topB, Bool.and_eq_true, decide_eq_true_eq, List.all_eq_true] at h
  exact ⟨h.1, h.2.1, fun j hj => within_le (h.2.2 _ (at1_mem hj))⟩
theorem all_not {ws : List Int} {f : Int → Bool} (h : ∀ j, j < ws.length → f (at1 ws j) = true) : ws.all f = true := by
  rw [List.all_eq_true]; intro z hz; obtain ⟨j, hj, rfl⟩ := mem_at1 hz; exact h j hj
theorem walk_no1 {X Y Z : Int} {cs : List C} {ws : List Int} (h : topB X Y Z cs 0 ws = false) : walkB X Y Z cs ws = false := by
  cases g : walkB X Y Z cs ws with
  | false => rfl
  | true =>
    simp only [walkB, Bool.and_eq_true, decide_eq_true_eq, List.all_eq_true, List.mem_range] at g
    have : topB X Y Z cs 0 ws = true := by
      simp only [topB, g.1.1, Bool.true_and, Int.le_refl, decide_true]
      exact all_not fun j hj => by have := g.2 j hj; simp only [wOk, Bool.and_eq_true] at this; exact this.1
    rw [this] at h; simp at h
theorem walk_no0 {X Y Z : Int} {cs : List C} {ws : List Int} (h : isHeap X Y Z cs = false) : walkB X Y Z cs ws = false := by simp only [walkB, h, Bool.false_and]
theorem walk_no2 {X Y Z : Int} {cs : List C} {ws : List Int} (h : ¬ 0 < ws.length) : walkB X Y Z cs ws = false := by simp only [walkB, decide_eq_false h, Bool.and_false, Bool.false_and]
theorem walk_no3 {X Y Z : Int} {cs : List C} {ws : List Int} {i : Nat} (hi : i < ws.length) (h : wOk X Y ws i = false) : walkB X Y Z cs ws = false := by
  have : (List.range ws.length).all (wOk X Y ws) = false := by
    rw [List.all_eq_false]; exact ⟨i, by simpa using hi, by rw [h]; simp⟩
  simp only [walkB, this, Bool.and_false]
theorem walk_yes {X Y Z : Int} {cs : List C} {ws : List Int} (h : isHeap X Y Z cs = true) (h0 : 0 < ws.length) (hq : ∀ j, j < ws.length → wOk X Y ws j = true) : walkB X Y Z cs ws = true := by
  have : (List.range ws.length).all (wOk X Y ws) = true := by
    rw [List.all_eq_true]; intro j hj; exact hq j (by simpa using hj)
  simp only [walkB, h, this, decide_eq_true h0, Bool.and_self]
theorem wOk_no1 {X Y : Int} {ws : List Int} {i : Nat} (h : within (at1 ws i) 0 (X * Y - 1) = false) : wOk X Y ws i = false := by simp only [wOk, h, Bool.false_and]
theorem wOk_no2 {X Y : Int} {ws : List Int} {i : Nat} (h0 : 0 < i) (h : ¬ at1 ws i ∈ nearL Y (X * Y).toNat (at1 ws (i - 1)).toNat) : wOk X Y ws i = false := by
  simp only [wOk, decide_eq_false h, decide_eq_false (show ¬ i = 0 by omega), Bool.or_self, Bool.and_false]
theorem within_of {a m : Int} (h : 0 ≤ a ∧ a < m) : within a 0 (m - 1) = true := by simp [within]; omega
theorem wOk_yes0 {X Y : Int} {ws : List Int} {i : Nat} (h : 0 ≤ at1 ws i ∧ at1 ws i < X * Y) (h0 : i = 0) : wOk X Y ws i = true := by
  simp only [wOk, within_of h, decide_eq_true h0, Bool.true_or, Bool.and_self]
theorem wOk_yes {X Y : Int} {ws : List Int} {i : Nat} (h : 0 ≤ at1 ws i ∧ at1 ws i < X * Y) (h0 : at1 ws i ∈ nearL Y (X * Y).toNat (at1 ws (i - 1)).toNat) : wOk X Y ws i = true := by
  simp only [wOk, within_of h, decide_eq_true h0, Bool.or_true, Bool.and_self]
theorem wOk_bd {X Y : Int} {ws : List Int} {i : Nat} (h : wOk X Y ws i = true) : 0 ≤ at1 ws i ∧ at1 ws i < X * Y := by
  simp only [wOk, Bool.and_eq_true] at h; exact within_le h.1
theorem wk_no {X Y Z : Int} {cs : List C} {ws : List Int} (h : walkB X Y Z cs ws = false) : Value.tuple #[.int .i64 0, .int .i64 0, .bool false] = .tuple #[.int .i64 (wkA X Y Z cs ws), .int .i64 (wkS X Y Z cs ws), .bool (walkB X Y Z cs ws)] := by
  unfold wkA wkS; rw [h]; rfl
theorem wk_yes {X Y Z : Int} {cs : List C} {ws : List Int} (h : walkB X Y Z cs ws = true) : Value.tuple #[.int .i64 (wMax (topsN X Y cs cs.length) ws ws.length), .int .i64 (wSum (topsN X Y cs cs.length) ws ws.length), .bool true] = .tuple #[.int .i64 (wkA X Y Z cs ws), .int .i64 (wkS X Y Z cs ws), .bool (walkB X Y Z cs ws)] := by
  unfold wkA wkS; rw [h]; rfl
theorem any_mem {zs : List Int} {x : Int} : (zs.any fun z => decide (x = z)) = decide (x ∈ zs) := by
  rw [Bool.eq_iff_iff, List.any_eq_true, decide_eq_true_eq]
  constructor
  · rintro ⟨z, hz, e⟩; rw [of_decide_eq_true e]; exact hz
  · exact fun h => ⟨x, h, decide_eq_true rfl⟩
theorem mem_yes1 {zs : List Int} {x : Int} {i : Nat} (hi : i < zs.length) (h : at1 zs i = x) : decide (x ∈ zs) = true := decide_eq_true (h ▸ at1_mem hi)
theorem mem_no1 {zs : List Int} {x : Int} (hq : ∀ j, j < zs.length → ¬ at1 zs j = x) : decide (x ∈ zs) = false := decide_eq_false fun h => by
  obtain ⟨j, hj, e⟩ := mem_at1 h; exact hq j hj e
end Go.Sep
