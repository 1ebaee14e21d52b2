/- Lines: how many cubes they have, how many bare faces. -/
import Derived.Test.YtkfhblkjllbejaaSets4
namespace Go.Sep
open Go
set_option linter.unusedVariables false
set_option linter.unusedSimpArgs false

/-! ### A line has no more cubes than cells -/
theorem line_same {X Y Z : Int} {p : Nat} {a b : C} (hX : Box X Y Z) (ha : In X Y Z a) (hb : In X Y Z b) (h : lineIx X Y Z p a = lineIx X Y Z p b) : ci a (o1 p) = ci b (o1 p) ∧ ci a (o2 p) = ci b (o2 p) := by
  have e1 := (line_bd hX p ha).1
  have e2 := (line_bd hX p hb).1
  rw [h, ← e2] at e1
  have h1 := ciC ha (o2 p)
  have h2 := ciC hb (o2 p)
  have h3 := ciS hX (o2 p)
  generalize ci (X, Y, Z) (o2 p) = S at *
  obtain rfl | rfl | rfl | rfl : S = 1 ∨ S = 2 ∨ S = 3 ∨ S = 4 := by omega
  all_goals omega
theorem before_line {a b : C} {p : Nat} (hp : p < 3) (h1 : ci a (o1 p) = ci b (o1 p)) (h2 : ci a (o2 p) = ci b (o2 p)) (hb : before a b = true) : ci a p < ci b p := by
  obtain ⟨a1, a2, a3⟩ := a
  obtain ⟨b1, b2, b3⟩ := b
  obtain rfl | rfl | rfl : p = 0 ∨ p = 1 ∨ p = 2 := by omega
  all_goals
    simp [ci, o1, o2] at h1 h2
    simp [before, h1, h2] at hb
    simp [ci]
    first | exact hb | exact hb.2 | omega
theorem view_le {X Y Z : Int} {p : Nat} {cs : List C} (hp : p < 3) (hv : Valid X Y Z cs) {j : Nat} : ∀ i, i ≤ cs.length → ∀ b : Int, 0 ≤ b → (∀ k, k < i → lineIx X Y Z p (at3 cs k) = j → ci (at3 cs k) p < b) → at1 (viewN X Y Z p cs i) j ≤ b
  | 0, _, b, hb, _ => by rw [viewN_zero, at1_replicate]; exact hb
  | i + 1, h, b, hb, hk => by
    rw [← viewN_succ (by omega), viewStep, at1_set]
    split
    · rename_i e
      rw [e.1]
      have hi := hv.inn _ (at3_mem (show i < cs.length by omega))
      have ih := view_le hp hv (j := j) i (by omega) (ci (at3 cs i) p) (ciC hi p).1 fun k hk' e' => by
        have hik := hv.inn _ (at3_mem (show k < cs.length by omega))
        have h1 := ix_mono hv hk' (show i < cs.length by omega)
        rw [← before_ix hv.box hik hi] at h1
        obtain ⟨h2, h3⟩ := line_same hv.box hik hi (e'.trans e.1.symm)
        exact before_line hp h2 h3 h1
      have := hk i (by omega) e.1
      omega
    · exact view_le hp hv i (by omega) b hb fun k hk' => hk k (by omega)
theorem view_bd {X Y Z : Int} {p : Nat} {cs : List C} (hp : p < 3) (hv : Valid X Y Z cs) (j : Nat) : 0 ≤ at1 (viewL X Y Z p cs) j ∧ at1 (viewL X Y Z p cs) j ≤ ci (X, Y, Z) p :=
  ⟨(viewN_bd (p := p) (cs := cs) cs.length (Nat.le_refl _) j).1, view_le hp hv _ (Nat.le_refl _) _ (by have := ciS hv.box p; omega) fun k hk _ => (ciC (hv.inn _ (at3_mem hk)) p).2⟩

/-! ### Neighbours in a direction -/
/-- A cell with a number added in a direction. -/
def movC (c : C) (p : Nat) (d : Int) : C := addC c (if p = 0 then (d, 0, 0) else if p = 1 then (0, d, 0) else (0, 0, d))
theorem mov_tri {c : C} {p : Nat} {d : Int} (hp : p < 3) : (tri c).set (0 + p * 1) (.int .i64 (ci c p + d)) = tri (movC c p d) := by
  obtain ⟨c1, c2, c3⟩ := c
  obtain rfl | rfl | rfl : p = 0 ∨ p = 1 ∨ p = 2 := by omega
  all_goals simp [tri, movC, addC, ci]
theorem mov_line {X Y Z : Int} {c : C} {p : Nat} {d : Int} (hp : p < 3) : lineIx X Y Z p (movC c p d) = lineIx X Y Z p c := by
  obtain ⟨c1, c2, c3⟩ := c
  obtain rfl | rfl | rfl : p = 0 ∨ p = 1 ∨ p = 2 := by omega
  all_goals simp [lineIx, movC, addC, ci, o1, o2]
theorem mov_back {c : C} {p : Nat} {d : Int} : movC (movC c p d) p (-d) = c := by
  obtain ⟨c1, c2, c3⟩ := c
  unfold movC addC
  split
  · simp; omega
  · split
    · simp; omega
    · simp; omega
theorem mov_before (a b : C) (p : Nat) (d : Int) : before (movC a p d) (movC b p d) = before a b := before_add a b _
/-- Cubes with a cube behind them, and cubes with a cube ahead of them: as many in each line. -/
theorem mov_filter {X Y Z : Int} {cs : List C} (hv : Valid X Y Z cs) {p j : Nat} (hp : p < 3) :
    ((cs.filter fun c => decide (lineIx X Y Z p c = j) && decide (movC c p 1 ∈ cs)).map fun c => movC c p 1) = cs.filter fun c => decide (lineIx X Y Z p c = j) && decide (movC c p (-1) ∈ cs) := by
  have hX := hv.box
  have hf := hv.filter fun c => decide (lineIx X Y Z p c = j) && decide (movC c p 1 ∈ cs)
  have hm : Valid X Y Z ((cs.filter fun c => decide (lineIx X Y Z p c = j) && decide (movC c p 1 ∈ cs)).map fun c => movC c p 1) := by
    have := valid_add hf hX hX (d := if p = 0 then (1, 0, 0) else if p = 1 then (0, 1, 0) else (0, 0, 1)) (fun c hc => by
      have := (List.mem_filter.mp hc).2
      simp only [Bool.and_eq_true, decide_eq_true_eq] at this
      exact hv.inn _ this.2)
    exact this
  refine hm.ext (hv.filter _) fun c hc => ?_
  simp only [List.mem_map, List.mem_filter, Bool.and_eq_true, decide_eq_true_eq]
  constructor
  · rintro ⟨d, ⟨h1, h2, h3⟩, rfl⟩
    exact ⟨h3, by rw [mov_line hp]; exact h2, by rw [mov_back]; exact h1⟩
  · rintro ⟨h1, h2, h3⟩
    refine ⟨movC c p (-1), ⟨h3, by rw [mov_line hp]; exact h2, ?_⟩, ?_⟩
    · have := mov_back (c := c) (p := p) (d := -1); simp only [Int.neg_neg] at this; rw [this]; exact h1
    · have := mov_back (c := c) (p := p) (d := -1); simp only [Int.neg_neg] at this; exact this
/-- One more at a place. -/
def incL (o : List Int) (j : Nat) (z : Int) : List Int := o.set j (at1 o j + z)
theorem incL_length (o : List Int) (j : Nat) (z : Int) : (incL o j z).length = o.length := by simp [incL]
theorem incL_at {o : List Int} {j : Nat} {z : Int} (hj : j < o.length) (k : Nat) : at1 (incL o j z) k = if j = k then at1 o k + z else at1 o k := by
  unfold incL
  rw [at1_set]
  by_cases h : j = k
  · subst h; simp [hj]
  · simp [h]
/-- What a cube adds to the bare faces of its line: the program's way. -/
def barStep (X Y Z : Int) (p : Nat) (cs : List C) (o : List Int) (c : C) : List Int :=
  let o' := if decide (movC c p (-1) ∈ cs) then o else incL o (lineIx X Y Z p c) 1
  if decide (movC c p 1 ∈ cs) then o' else incL o' (lineIx X Y Z p c) 1
/-- The reference's way. -/
def strStep (X Y Z : Int) (p : Nat) (cs : List C) (o : List Int) (c : C) : List Int := if decide (movC c p 1 ∈ cs) then o else incL o (lineIx X Y Z p c) 2
def barN (X Y Z : Int) (p : Nat) (cs : List C) (i : Nat) : List Int := (cs.take i).foldl (barStep X Y Z p cs) (List.replicate (linesOf X Y Z p) 0)
def strN (X Y Z : Int) (p : Nat) (cs : List C) (i : Nat) : List Int := (cs.take i).foldl (strStep X Y Z p cs) (List.replicate (linesOf X Y Z p) 0)
theorem barN_zero (X Y Z : Int) (p : Nat) (cs : List C) : barN X Y Z p cs 0 = List.replicate (linesOf X Y Z p) 0 := by simp [barN]
theorem strN_zero (X Y Z : Int) (p : Nat) (cs : List C) : strN X Y Z p cs 0 = List.replicate (linesOf X Y Z p) 0 := by simp [strN]
theorem barN_succ {X Y Z : Int} {p : Nat} {cs : List C} {i : Nat} (h : i < cs.length) : barN X Y Z p cs (i + 1) = barStep X Y Z p cs (barN X Y Z p cs i) (at3 cs i) := by
  unfold barN; rw [take_succ3 h, List.foldl_append]; rfl
theorem strN_succ {X Y Z : Int} {p : Nat} {cs : List C} {i : Nat} (h : i < cs.length) : strN X Y Z p cs (i + 1) = strStep X Y Z p cs (strN X Y Z p cs i) (at3 cs i) := by
  unfold strN; rw [take_succ3 h, List.foldl_append]; rfl
theorem barStep_length (X Y Z : Int) (p : Nat) (cs : List C) (o : List Int) (c : C) : (barStep X Y Z p cs o c).length = o.length := by
  unfold barStep; simp only; split <;> split <;> simp [incL_length]
theorem strStep_length (X Y Z : Int) (p : Nat) (cs : List C) (o : List Int) (c : C) : (strStep X Y Z p cs o c).length = o.length := by
  unfold strStep; split <;> simp [incL_length]
theorem barN_length (X Y Z : Int) (p : Nat) (cs : List C) : ∀ i, i ≤ cs.length → (barN X Y Z p cs i).length = linesOf X Y Z p
  | 0, _ => by rw [barN_zero]; simp
  | i + 1, h => by rw [barN_succ (by omega), barStep_length]; exact barN_length X Y Z p cs i (by omega)
theorem strN_length (X Y Z : Int) (p : Nat) (cs : List C) : ∀ i, i ≤ cs.length → (strN X Y Z p cs i).length = linesOf X Y Z p
  | 0, _ => by rw [strN_zero]; simp
  | i + 1, h => by rw [strN_succ (by omega), strStep_length]; exact strN_length X Y Z p cs i (by omega)
/-- How many of the first cubes lie in a line and have something. -/
def cntN (X Y Z : Int) (p : Nat) (cs : List C) (P : C → Bool) (i j : Nat) : Int := ((((cs.take i).filter fun c => decide (lineIx X Y Z p c = j) && P c).length : Nat) : Int)
theorem cntN_succ {X Y Z : Int} {p : Nat} {cs : List C} {P : C → Bool} {i j : Nat} (h : i < cs.length) :
    cntN X Y Z p cs P (i + 1) j = cntN X Y Z p cs P i j + if lineIx X Y Z p (at3 cs i) = j then (if P (at3 cs i) then 1 else 0) else 0 := by
  unfold cntN
  rw [take_succ3 h, List.filter_append, List.length_append]
  simp only [List.filter_cons, List.filter_nil]
  by_cases h1 : lineIx X Y Z p (at3 cs i) = j <;> cases h2 : P (at3 cs i) <;> simp only [h1, h2, decide_true, decide_false, Bool.and_true, Bool.and_false, Bool.true_and, Bool.false_and, if_true, if_false, Bool.false_eq_true, List.length_cons, List.length_nil] <;> omega
theorem barN_at {X Y Z : Int} {p : Nat} {cs : List C} (hv : Valid X Y Z cs) (j : Nat) : ∀ i, i ≤ cs.length → at1 (barN X Y Z p cs i) j = cntN X Y Z p cs (fun c => !decide (movC c p (-1) ∈ cs)) i j + cntN X Y Z p cs (fun c => !decide (movC c p 1 ∈ cs)) i j
  | 0, _ => by rw [barN_zero, at1_replicate]; simp [cntN]
  | i + 1, h => by
    have ih := barN_at (p := p) hv j i (by omega)
    have hl := barN_length X Y Z p cs i (by omega)
    have hx := (line_bd hv.box p (hv.inn _ (at3_mem (show i < cs.length by omega)))).2
    rw [barN_succ (by omega), cntN_succ (by omega), cntN_succ (by omega)]
    unfold barStep
    simp only
    cases h1 : decide (movC (at3 cs i) p (-1) ∈ cs) <;> cases h2 : decide (movC (at3 cs i) p 1 ∈ cs) <;> simp only [if_true, if_false, Bool.false_eq_true, Bool.not_true, Bool.not_false]
    · rw [incL_at (by rw [incL_length]; omega), incL_at (by omega)]; split <;> omega
    · rw [incL_at (by omega)]; split <;> omega
    · rw [incL_at (by omega)]; split <;> omega
    · split <;> omega
theorem strN_at {X Y Z : Int} {p : Nat} {cs : List C} (hv : Valid X Y Z cs) (j : Nat) : ∀ i, i ≤ cs.length → at1 (strN X Y Z p cs i) j = 2 * cntN X Y Z p cs (fun c => !decide (movC c p 1 ∈ cs)) i j
  | 0, _ => by rw [strN_zero, at1_replicate]; simp [cntN]
  | i + 1, h => by
    have ih := strN_at (p := p) hv j i (by omega)
    have hl := strN_length X Y Z p cs i (by omega)
    have hx := (line_bd hv.box p (hv.inn _ (at3_mem (show i < cs.length by omega)))).2
    rw [strN_succ (by omega), cntN_succ (by omega)]
    unfold strStep
    cases h2 : decide (movC (at3 cs i) p 1 ∈ cs) <;> simp only [if_true, if_false, Bool.false_eq_true, Bool.not_true, Bool.not_false]
    · rw [incL_at (by omega)]; split <;> omega
    · split <;> omega
theorem cnt_split {X Y Z : Int} {p : Nat} {cs : List C} (P : C → Bool) (i j : Nat) : cntN X Y Z p cs (fun c => !P c) i j = ((((cs.take i).filter fun c => decide (lineIx X Y Z p c = j)).length : Nat) : Int) - cntN X Y Z p cs P i j := by
  unfold cntN
  generalize cs.take i = l
  dsimp only
  induction l with
  | nil => simp
  | cons c l ih =>
    simp only [List.filter_cons]
    by_cases h1 : lineIx X Y Z p c = j <;> cases h2 : P c <;> simp only [h1, h2, decide_true, decide_false, Bool.and_true, Bool.and_false, Bool.true_and, Bool.false_and, Bool.not_true, Bool.not_false, if_true, if_false, Bool.false_eq_true, List.length_cons] <;> omega
theorem bar_str {X Y Z : Int} {p : Nat} {cs : List C} (hv : Valid X Y Z cs) (hp : p < 3) : barN X Y Z p cs cs.length = strN X Y Z p cs cs.length := by
  have hl := barN_length X Y Z p cs _ (Nat.le_refl _)
  have hl2 := strN_length X Y Z p cs _ (Nat.le_refl _)
  refine ext1 (by omega) fun j hj => ?_
  rw [barN_at hv j _ (Nat.le_refl _), strN_at hv j _ (Nat.le_refl _), cnt_split, cnt_split]
  have := congrArg List.length (mov_filter hv (j := j) hp)
  rw [List.length_map] at this
  unfold cntN
  rw [List.take_length]
  dsimp only
  omega
theorem barN_bd {X Y Z : Int} {p : Nat} {cs : List C} (hv : Valid X Y Z cs) (j i : Nat) (hi : i ≤ cs.length) : 0 ≤ at1 (barN X Y Z p cs i) j ∧ at1 (barN X Y Z p cs i) j ≤ 2 * (cs.length : Int) := by
  rw [barN_at hv j i hi]
  have h1 : ∀ P : C → Bool, ((cs.take i).filter fun c => decide (lineIx X Y Z p c = j) && P c).length ≤ cs.length := fun P => Nat.le_trans (List.length_filter_le _ _) (by simp; omega)
  have h2 := h1 fun c => !decide (movC c p (-1) ∈ cs)
  have h3 := h1 fun c => !decide (movC c p 1 ∈ cs)
  unfold cntN
  dsimp only at *
  omega
theorem strN_bd {X Y Z : Int} {p : Nat} {cs : List C} (hv : Valid X Y Z cs) (j i : Nat) (hi : i ≤ cs.length) : 0 ≤ at1 (strN X Y Z p cs i) j ∧ at1 (strN X Y Z p cs i) j ≤ 2 * (cs.length : Int) := by
  rw [strN_at hv j i hi]
  have h1 : ∀ P : C → Bool, ((cs.take i).filter fun c => decide (lineIx X Y Z p c = j) && P c).length ≤ cs.length := fun P => Nat.le_trans (List.length_filter_le _ _) (by simp; omega)
  have h3 := h1 fun c => !decide (movC c p 1 ∈ cs)
  unfold cntN
  dsimp only at *
  omega
end Go.Sep
