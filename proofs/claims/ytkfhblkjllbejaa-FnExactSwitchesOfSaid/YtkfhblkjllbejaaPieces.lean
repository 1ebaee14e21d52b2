/- Pieces: where they fit. -/
import Derived.Test.YtkfhblkjllbejaaSets8
namespace Go.Sep
open Go
set_option linter.unusedVariables false
set_option linter.unusedSimpArgs false

/-- All cells of a box, as a set. -/
theorem full_get {v j : Nat} (hv : 1 ≤ v ∧ v ≤ 64) (hj : j < 64) : ((1#64 : BitVec 64) <<< v - 1#64).getLsbD j = decide (j < v) := by
  have e : ((1#64 : BitVec 64) <<< v - 1#64).toNat = 2 ^ v - 1 := by
    rw [BitVec.toNat_sub, BitVec.toNat_shiftLeft]
    simp only [BitVec.toNat_ofNat, Nat.shiftLeft_eq]
    rcases Nat.lt_or_ge v 64 with g | g
    · have h1 : 2 ^ v < 2 ^ 64 := Nat.pow_lt_pow_right (by omega) g
      have h2 : 0 < 2 ^ v := Nat.pow_pos (by omega)
      simp
      omega
    · obtain rfl : v = 64 := by omega
      decide
  unfold BitVec.getLsbD
  rw [e, Nat.testBit_two_pow_sub_one]
theorem rep_full {X Y Z : Int} (hX : Box X Y Z) : Rep X Y Z ((1#64 : BitVec 64) <<< vol X Y Z - 1#64) (allC X Y Z) :=
  ⟨allC_valid hX, fun c hc => by rw [full_get (vol_le hX) (cellIx_lt64 hX hc), allC_mem hX]; exact ⟨fun _ => hc, fun _ => decide_eq_true (cellIx_lt hX hc)⟩, fun j hj g => by
    rw [full_get (vol_le hX) hj] at g; simpa using g⟩
/-- All cells without cubes. -/
def freeL (X Y Z : Int) (cs : List C) : List C := (allC X Y Z).filter fun c => !decide (c ∈ cs)
theorem rep_free {X Y Z : Int} {cs : List C} (hv : Valid X Y Z cs) : Rep X Y Z (((1#64 : BitVec 64) <<< vol X Y Z - 1#64) &&& ~~~ mask Y Z cs) (freeL X Y Z cs) := (rep_full hv.box).diff (rep_mask hv)
theorem free_has {X Y Z : Int} {cs : List C} (hv : Valid X Y Z cs) {c : C} (hc : In X Y Z c) : (((1#64 : BitVec 64) <<< vol X Y Z - 1#64) &&& ~~~ mask Y Z cs).getLsbD (cellIx Y Z c) = !decide (c ∈ cs) := by
  rw [(rep_free hv).has hc]
  simp [freeL, List.mem_filter, (allC_mem hv.box).mpr hc]

/-! ### Pieces -/
def in3 (c : C) : Bool := within c.1 0 3 && within c.2.1 0 3 && within c.2.2 0 3
def pOk (ps : List C) (j : Nat) : Bool := in3 (at3 ps j) && (decide (j = 0) || before (at3 ps (j - 1)) (at3 ps j))
def pieceB (ps : List C) : Bool := decide (1 ≤ ps.length ∧ ps.length ≤ 5) && (List.range ps.length).all (pOk ps) && decide (lowN ps ps.length = (0, 0, 0))
theorem pieceB_no0 {ps : List C} (h : ¬ (1 ≤ ps.length ∧ ps.length ≤ 5)) : pieceB ps = false := by simp [pieceB, h]
theorem pieceB_no {ps : List C} {i : Nat} (hi : i < ps.length) (h : pOk ps i = false) : pieceB ps = false := by
  have : (List.range ps.length).all (pOk ps) = false := by
    rw [List.all_eq_false]; exact ⟨i, by simpa using hi, by rw [h]; simp⟩
  simp [pieceB, this]
theorem pieceB_fin {ps : List C} (h : 1 ≤ ps.length ∧ ps.length ≤ 5) (hq : ∀ j, j < ps.length → pOk ps j = true) : pieceB ps = decide (lowN ps ps.length = (0, 0, 0)) := by
  have : (List.range ps.length).all (pOk ps) = true := by
    rw [List.all_eq_true]; intro j hj; exact hq j (by simpa using hj)
  simp [pieceB, this, h]
theorem in3_list (c : C) : ([c.1, c.2.1, c.2.2].all fun z => within z 0 3) = in3 c := by simp [in3, Bool.and_assoc]
theorem in3_bd {c : C} (h : in3 c = true) : (0 ≤ c.1 ∧ c.1 ≤ 3) ∧ (0 ≤ c.2.1 ∧ c.2.1 ≤ 3) ∧ (0 ≤ c.2.2 ∧ c.2.2 ≤ 3) := by
  simp [in3, within] at h; omega
theorem pOk_no1 {ps : List C} {i : Nat} (h : in3 (at3 ps i) = false) : pOk ps i = false := by simp only [pOk, h, Bool.false_and]
theorem pOk_no2 {ps : List C} {i : Nat} (hi : 0 < i) (h : 0 ≤ cmpC (at3 ps (i - 1)) (at3 ps i)) : pOk ps i = false := by
  have := cmpC_before (at3 ps (i - 1)) (at3 ps i)
  simp only [h, decide_true] at this
  have hb : before (at3 ps (i - 1)) (at3 ps i) = false := by simpa using this.symm
  simp only [pOk, hb, Bool.or_false, Bool.and_eq_false_iff, decide_eq_false_iff_not]
  exact .inr (by omega)
theorem pOk_no3 {ps : List C} {i : Nat} (hi : 0 < i) (h : before (at3 ps (i - 1)) (at3 ps i) = false) : pOk ps i = false := by
  simp only [pOk, h, Bool.or_false, Bool.and_eq_false_iff, decide_eq_false_iff_not]
  exact .inr (by omega)
theorem pOk_yes1 {ps : List C} {i : Nat} (h : in3 (at3 ps i) = true) (hi : i = 0) : pOk ps i = true := by
  subst hi; simp only [pOk, h, decide_true, Bool.true_or, Bool.and_true]
theorem pOk_yes2 {ps : List C} {i : Nat} (h : in3 (at3 ps i) = true) (hc : ¬ 0 ≤ cmpC (at3 ps (i - 1)) (at3 ps i)) : pOk ps i = true := by
  have := cmpC_before (at3 ps (i - 1)) (at3 ps i)
  simp only [hc, decide_false] at this
  have hb : before (at3 ps (i - 1)) (at3 ps i) = true := by simpa using this.symm
  simp only [pOk, h, hb, Bool.or_true, Bool.and_true]
theorem pOk_yes3 {ps : List C} {i : Nat} (h : in3 (at3 ps i) = true) (hc : before (at3 ps (i - 1)) (at3 ps i) = true) : pOk ps i = true := by
  simp only [pOk, h, hc, Bool.or_true, Bool.and_true]
theorem pOk_in {ps : List C} {j : Nat} (h : pOk ps j = true) : in3 (at3 ps j) = true := by simp only [pOk, Bool.and_eq_true] at h; exact h.1
/-- Least numbers, from 4 on. -/
def lstC (ps : List C) (i : Nat) : C := (ps.take i).foldl minC (4, 4, 4)
theorem lstC_zero (ps : List C) : lstC ps 0 = (4, 4, 4) := rfl
theorem lstC_succ {ps : List C} {i : Nat} (h : i < ps.length) : minC (lstC ps i) (at3 ps i) = lstC ps (i + 1) := by
  unfold lstC; rw [take_succ3 h, List.foldl_append]; rfl
theorem lst_low {ps : List C} (hq : ∀ j, j < ps.length → pOk ps j = true) : ∀ i, i + 1 ≤ ps.length → lstC ps (i + 1) = lowN ps (i + 1)
  | 0, h => by
    have := in3_bd (pOk_in (hq 0 (by omega)))
    rw [← lstC_succ (by omega), ← lowN_succ (by omega), lstC_zero, lowN_zero]
    simp only [minC, Prod.mk.injEq]
    omega
  | i + 1, h => by rw [← lstC_succ (by omega), ← lowN_succ (by omega), lst_low hq i (by omega)]
theorem ci3_bd {c : C} (h : in3 c = true) (k : Nat) : 0 ≤ ci c k ∧ ci c k ≤ 3 := by
  have := in3_bd h
  unfold ci; split
  · exact this.1
  · split
    · exact this.2.1
    · exact this.2.2
theorem in3_of {c : C} (h : ∀ k, k < 3 → within (ci c k) 0 3 = true) : in3 c = true := by
  have h0 := h 0 (by omega)
  have h1 := h 1 (by omega)
  have h2 := h 2 (by omega)
  simp [ci] at h0 h1 h2
  simp [in3, h0, h1, h2]
theorem in3_no {c : C} {k : Nat} (hk : k < 3) (h : within (ci c k) 0 3 = false) : in3 c = false := by
  obtain rfl | rfl | rfl : k = 0 ∨ k = 1 ∨ k = 2 := by omega
  all_goals
    simp [ci] at h
    simp [in3, h]

/-! ### Where a piece fits -/
def fitC (X Y Z : Int) (cs : List C) (a c : C) : Bool := inBox X Y Z (addC c a) && !decide (addC c a ∈ cs)
def fitAt (X Y Z : Int) (cs ps : List C) (a : C) : Bool := in3 a && ps.all fun c => fitC X Y Z cs a c
theorem all3_yes {ps : List C} {f : C → Bool} (h : ∀ j, j < ps.length → f (at3 ps j) = true) : ps.all f = true := by
  rw [List.all_eq_true]
  intro c hc
  obtain ⟨j, hj, rfl⟩ := mem_at3 hc
  exact h j hj
theorem all3_no {ps : List C} {f : C → Bool} {i : Nat} (hi : i < ps.length) (h : f (at3 ps i) = false) : ps.all f = false := by
  rw [List.all_eq_false]; exact ⟨_, at3_mem hi, by rw [h]; simp⟩
structure Piece (ps : List C) : Prop where
  len : 1 ≤ ps.length ∧ ps.length ≤ 5
  in3 : ∀ j, j < ps.length → in3 (at3 ps j) = true
theorem piece_of {ps : List C} (h : pieceB ps = true) : Piece ps := by
  simp only [pieceB, Bool.and_eq_true, decide_eq_true_eq, List.all_eq_true] at h
  exact ⟨h.1.1, fun j hj => pOk_in (h.1.2 j (by simpa using hj))⟩
/-- The program allows a place one further: nothing fits there. -/
theorem fit_04 {X Y Z : Int} {cs ps : List C} {a : C} (hX : Box X Y Z) (hp : Piece ps) (ha : (0 ≤ a.1 ∧ a.1 ≤ 4) ∧ (0 ≤ a.2.1 ∧ a.2.1 ≤ 4) ∧ (0 ≤ a.2.2 ∧ a.2.2 ≤ 4)) : (ps.all fun c => fitC X Y Z cs a c) = fitAt X Y Z cs ps a := by
  unfold fitAt
  cases h : in3 a with
  | true => rw [Bool.true_and]
  | false =>
    rw [Bool.false_and]
    refine all3_no (i := 0) (by have := hp.len; omega) ?_
    have h0 := in3_bd (hp.in3 0 (by have := hp.len; omega))
    cases g : inBox X Y Z (addC (at3 ps 0) a) with
    | false => simp only [fitC, g, Bool.false_and]
    | true =>
      have h1 := inBox_bd g
      simp only [addC, Box] at h1 hX
      exfalso
      have : in3 a = true := by simp only [in3, within, Bool.and_eq_true, decide_eq_true_eq]; omega
      rw [this] at h; simp at h
theorem fit_no {X Y Z : Int} {cs ps : List C} {a : C} (h : in3 a = false) : fitAt X Y Z cs ps a = false := by simp only [fitAt, h, Bool.false_and]
theorem fit_yes {X Y Z : Int} {cs ps : List C} {a : C} (h : in3 a = true) : fitAt X Y Z cs ps a = ps.all fun c => fitC X Y Z cs a c := by simp only [fitAt, h, Bool.true_and]
theorem w04_list (a : C) : ([a.1, a.2.1, a.2.2].all fun z => within z 0 4) = true ↔ (0 ≤ a.1 ∧ a.1 ≤ 4) ∧ (0 ≤ a.2.1 ∧ a.2.1 ≤ 4) ∧ (0 ≤ a.2.2 ∧ a.2.2 ≤ 4) := by
  simp [within, and_assoc]
theorem fit_04no {X Y Z : Int} {cs ps : List C} {a : C} (h : ([a.1, a.2.1, a.2.2].all fun z => within z 0 4) = false) : fitAt X Y Z cs ps a = false := by
  refine fit_no ?_
  cases g : in3 a with
  | false => rfl
  | true =>
    have := in3_bd g
    rw [(w04_list a).mpr (by omega)] at h; simp at h
end Go.Sep
