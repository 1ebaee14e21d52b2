/- Shadows as arguments. -/
import Derived.Test.YtkfhblkjllbejaaSets6
namespace Go.Sep
open Go
set_option linter.unusedVariables false
set_option linter.unusedSimpArgs false

/-! ### Rows of numbers that a law was handed -/
def RowI (H : Heap) (n : Nat) (sv : Value) (zs : List Int) : Prop :=
  (zs = [] ∧ sv = .slice none 0 2) ∨ ∃ b, b < n ∧ sv = .slice (some ⟨b, 0, none⟩) zs.length 1 ∧ H b = some (.cells true (ints zs))
theorem RowI.form {H : Heap} {n : Nat} {sv : Value} {zs : List Int} (h : RowI H n sv zs) : ∃ p e, sv = .slice p zs.length e := by
  rcases h with ⟨rfl, rfl⟩ | ⟨b, _, rfl, _⟩
  · exact ⟨_, _, rfl⟩
  · exact ⟨_, _, rfl⟩
theorem RowI.keep {H G : Heap} {n m : Nat} {sv : Value} {zs : List Int} (h : RowI H n sv zs) (hm : n ≤ m) (hG : ∀ x b, x < n → H x = some b → G x = some b) : RowI G m sv zs := by
  rcases h with h | ⟨b, hb, h1, h2⟩
  · exact .inl h
  · exact .inr ⟨b, by omega, h1, hG b _ hb h2⟩
theorem RowV.ints1 {H : Heap} {n : Nat} {sv : Value} {zs : List Int} (h : RowV H n 1 sv zs) : RowI H n sv zs ∧ zs.length ≤ 9223372036854775807 := by
  rcases h with ⟨rfl, rfl⟩ | ⟨b, len, h1, rfl, h3, h4, h5⟩
  · exact ⟨.inl ⟨rfl, rfl⟩, by simp⟩
  · obtain rfl : len = zs.length := by omega
    exact ⟨.inr ⟨b, h1, rfl, h5⟩, by omega⟩
def copyI (zs : List Int) (i : Nat) : List Int := zs.take i ++ List.replicate (zs.length - i) 0
theorem copyI_length {zs : List Int} {i : Nat} (h : i ≤ zs.length) : (copyI zs i).length = zs.length := by simp [copyI]; omega
theorem copyI_set {zs : List Int} {i : Nat} (h : i < zs.length) : (copyI zs i).set i (at1 zs i) = copyI zs (i + 1) := by
  unfold copyI
  rw [List.set_append_right _ _ (by simp; omega)]
  rw [show i - (zs.take i).length = 0 by simp; omega, show zs.length - i = (zs.length - (i + 1)) + 1 by omega, List.replicate_succ, List.set_cons_zero]
  rw [List.take_add_one, show zs[i]? = some (at1 zs i) by simp [at1, List.getD, h]]
  simp
theorem copyI_all (zs : List Int) : copyI zs zs.length = zs := by simp [copyI]
theorem copyI_zero (zs : List Int) : copyI zs 0 = List.replicate zs.length 0 := by simp [copyI]

/-! ### One of three by direction -/
theorem pick3_get {b0 b1 b2 m0 m1 m2 d : Nat} (hd : d < 3) : [Value.slice (some ⟨b2, 0, none⟩) m2 1, .slice (some ⟨b1, 0, none⟩) m1 1, .slice (some ⟨b0, 0, none⟩) m0 1][((d : Nat) : Int).toNat * 1]? = some (.slice (some ⟨pick3 b2 b1 b0 d, 0, none⟩) (pick3 m2 m1 m0 d) 1) := by
  obtain rfl | rfl | rfl : d = 0 ∨ d = 1 ∨ d = 2 := by omega
  all_goals rfl
theorem pick_look {G : Heap} {b0 b1 b2 d : Nat} {r0 r1 r2 : Bool} {x0 x1 x2 : List Int} (h0 : G b0 = some (.cells r0 (ints x0))) (h1 : G b1 = some (.cells r1 (ints x1))) (h2 : G b2 = some (.cells r2 (ints x2))) (hd : d < 3) :
    G (pick3 b2 b1 b0 d) = some (.cells (pick3 r2 r1 r0 d) (ints (pick3 x2 x1 x0 d))) := by
  obtain rfl | rfl | rfl : d = 0 ∨ d = 1 ∨ d = 2 := by omega
  · exact h2
  · exact h1
  · exact h0
theorem pick_len {x0 x1 x2 : List Int} (d : Nat) : (pick3 x2 x1 x0 d).length = pick3 x2.length x1.length x0.length d := by
  rcases d with _ | _ | d <;> rfl
theorem pick_le {a b c m d : Nat} (ha : a ≤ m) (hb : b ≤ m) (hc : c ≤ m) : pick3 a b c d ≤ m := by
  rcases d with _ | _ | d
  · exact ha
  · exact hb
  · exact hc
theorem pick_lt {a b c m d : Nat} (ha : a < m) (hb : b < m) (hc : c < m) : pick3 a b c d < m := by
  rcases d with _ | _ | d
  · exact ha
  · exact hb
  · exact hc

/-! ### Valid shadows -/
def oneB (zs : List Int) (m : Nat) : Bool := decide (zs.length = m) && zs.all fun z => within z 0 1
def shadB (X Y Z : Int) (x0 x1 x2 : List Int) : Bool := sides X Y Z && (oneB x0 (linesOf X Y Z 2) && oneB x1 (linesOf X Y Z 1) && oneB x2 (linesOf X Y Z 0))
theorem oneB_yes {zs : List Int} {m : Nat} (h1 : zs.length = m) (h2 : (zs.all fun z => within z 0 1) = true) : oneB zs m = true := by simp [oneB, h1, h2]
theorem oneB_no1 {zs : List Int} {m : Nat} (h1 : ¬ zs.length = m) : oneB zs m = false := by simp [oneB, h1]
theorem oneB_no2 {zs : List Int} {m : Nat} (h2 : (zs.all fun z => within z 0 1) = false) : oneB zs m = false := by simp only [oneB, h2, Bool.and_false]
theorem oneB_no3 {zs : List Int} {m i : Nat} (hi : i < zs.length) (h : within (at1 zs i) 0 1 = false) : oneB zs m = false := oneB_no2 (all1_no hi h)
theorem oneB_fin {zs : List Int} {m : Nat} (h : ∀ j, j < zs.length → within (at1 zs j) 0 1 = true) : oneB zs m = decide ((zs.length : Int) = (m : Int)) := by
  unfold oneB
  rw [all1_yes (p := fun z => within z 0 1) h, Bool.and_true, decide_eq_decide]; omega
theorem shadB_no0 {X Y Z : Int} {x0 x1 x2 : List Int} (h : sides X Y Z = false) : shadB X Y Z x0 x1 x2 = false := by simp [shadB, h]
theorem shadB_no {X Y Z : Int} {x0 x1 x2 : List Int} {k : Nat} (hk : k < 3) (h : oneB (pick3 x2 x1 x0 k) (linesOf X Y Z k) = false) : shadB X Y Z x0 x1 x2 = false := by
  obtain rfl | rfl | rfl : k = 0 ∨ k = 1 ∨ k = 2 := by omega
  all_goals
    simp only [pick3] at h
    simp [shadB, h]
theorem shadB_yes {X Y Z : Int} {x0 x1 x2 : List Int} (hs : sides X Y Z = true) (h : ∀ k, k < 3 → oneB (pick3 x2 x1 x0 k) (linesOf X Y Z k) = true) : shadB X Y Z x0 x1 x2 = true := by
  have h0 := h 0 (by omega)
  have h1 := h 1 (by omega)
  have h2 := h 2 (by omega)
  simp only [pick3] at h0 h1 h2
  simp [shadB, hs, h0, h1, h2]
structure ShOk (X Y Z : Int) (x0 x1 x2 : List Int) : Prop where
  box : Box X Y Z
  len : ∀ k, k < 3 → (pick3 x2 x1 x0 k).length = linesOf X Y Z k
  bin : ∀ k, k < 3 → ∀ j, j < linesOf X Y Z k → at1 (pick3 x2 x1 x0 k) j = 0 ∨ at1 (pick3 x2 x1 x0 k) j = 1
theorem oneB_len {zs : List Int} {m : Nat} (h : oneB zs m = true) : zs.length = m := by
  simp only [oneB, Bool.and_eq_true, decide_eq_true_eq] at h; exact h.1
theorem oneB_bin {zs : List Int} {m j : Nat} (h : oneB zs m = true) (hj : j < m) : at1 zs j = 0 ∨ at1 zs j = 1 := by
  have hl := oneB_len h
  simp only [oneB, Bool.and_eq_true, List.all_eq_true] at h
  have := h.2 (at1 zs j) (by
    simp only [at1, List.getD, List.getElem?_eq_getElem (show j < zs.length by omega), Option.getD_some]
    exact List.getElem_mem _)
  simp only [within, Bool.and_eq_true, decide_eq_true_eq] at this
  omega
theorem shOk {X Y Z : Int} {x0 x1 x2 : List Int} (h : shadB X Y Z x0 x1 x2 = true) : ShOk X Y Z x0 x1 x2 := by
  simp only [shadB, Bool.and_eq_true] at h
  obtain ⟨hs, ⟨h0, h1⟩, h2⟩ := h
  refine ⟨sides_bd hs, fun k hk => ?_, fun k hk j hj => ?_⟩
  · obtain rfl | rfl | rfl : k = 0 ∨ k = 1 ∨ k = 2 := by omega
    · exact oneB_len h2
    · exact oneB_len h1
    · exact oneB_len h0
  · obtain rfl | rfl | rfl : k = 0 ∨ k = 1 ∨ k = 2 := by omega
    · exact oneB_bin h2 hj
    · exact oneB_bin h1 hj
    · exact oneB_bin h0 hj

/-! ### Allowed cells -/
def alF (X Y Z : Int) (x0 x1 x2 : List Int) (c : C) : Bool := !decide (at1 x2 (lineIx X Y Z 0 c) = 0) && !decide (at1 x1 (lineIx X Y Z 1 c) = 0) && !decide (at1 x0 (lineIx X Y Z 2 c) = 0)
theorem alF_no {X Y Z : Int} {x0 x1 x2 : List Int} {c : C} {k : Nat} (hk : k < 3) (h : at1 (pick3 x2 x1 x0 k) (lineIx X Y Z k c) = 0) : alF X Y Z x0 x1 x2 c = false := by
  obtain rfl | rfl | rfl : k = 0 ∨ k = 1 ∨ k = 2 := by omega
  all_goals
    simp only [pick3] at h
    simp only [alF, h, decide_true, Bool.not_true, Bool.and_false, Bool.false_and]
theorem alF_yes {X Y Z : Int} {x0 x1 x2 : List Int} {c : C} (h : ∀ k, k < 3 → ¬ at1 (pick3 x2 x1 x0 k) (lineIx X Y Z k c) = 0) : alF X Y Z x0 x1 x2 c = true := by
  have h0 := h 0 (by omega)
  have h1 := h 1 (by omega)
  have h2 := h 2 (by omega)
  simp only [pick3] at h0 h1 h2
  simp only [alF, h0, h1, h2, decide_false, Bool.not_false, Bool.and_self]
theorem al_eq {X Y Z : Int} {x0 x1 x2 : List Int} (h : ShOk X Y Z x0 x1 x2) {c : C} (hc : In X Y Z c) :
    alF X Y Z x0 x1 x2 c = (decide (at1 x0 (lineIx X Y Z 2 c) = 1) && decide (at1 x1 (lineIx X Y Z 1 c) = 1) && decide (at1 x2 (lineIx X Y Z 0 c) = 1)) := by
  have b0 := h.bin 0 (by omega) _ (line_bd h.box 0 hc).2
  have b1 := h.bin 1 (by omega) _ (line_bd h.box 1 hc).2
  have b2 := h.bin 2 (by omega) _ (line_bd h.box 2 hc).2
  simp only [pick3] at b0 b1 b2
  unfold alF
  rcases b0 with e0 | e0 <;> rcases b1 with e1 | e1 <;> rcases b2 with e2 | e2 <;> simp only [e0, e1, e2] <;> decide
def alC (X Y Z : Int) (x0 x1 x2 : List Int) : List C := (allC X Y Z).filter (alF X Y Z x0 x1 x2)
theorem alC_valid {X Y Z : Int} {x0 x1 x2 : List Int} (hX : Box X Y Z) : Valid X Y Z (alC X Y Z x0 x1 x2) := (allC_valid hX).filter _
theorem alC_cells {X Y Z : Int} {x0 x1 x2 : List Int} (hX : Box X Y Z) : cellsOf X Y Z (thoseTo Y Z (alF X Y Z x0 x1 x2) (vol X Y Z)) = alC X Y Z x0 x1 x2 := cells_those hX _
def fitL (X Y Z : Int) (x0 x1 x2 : List Int) (L : List C) : Bool := decide (x0 = onesL (viewL X Y Z 2 L)) && decide (x1 = onesL (viewL X Y Z 1 L)) && decide (x2 = onesL (viewL X Y Z 0 L))
abbrev fitB (X Y Z : Int) (x0 x1 x2 : List Int) : Bool := fitL X Y Z x0 x1 x2 (alC X Y Z x0 x1 x2)
theorem dec_comm (a b : List Int) : decide (a = b) = decide (b = a) := by rw [decide_eq_decide]; exact eq_comm
end Go.Sep
