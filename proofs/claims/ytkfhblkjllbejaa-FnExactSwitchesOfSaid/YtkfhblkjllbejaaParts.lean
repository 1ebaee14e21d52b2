/- Parts, standing cubes. -/
import Derived.Test.YtkfhblkjllbejaaReach
import Derived.Test.YtkfhblkjllbejaaExt
namespace Go.Sep
open Go
set_option linter.unusedVariables false
set_option linter.unusedSimpArgs false

noncomputable def restL (L : List C) : List C := L.filter fun c => !decide (c ∈ rchL L [at3 L 0])
noncomputable def leftN (L : List C) : Nat → List C
  | 0 => L
  | k + 1 => restL (leftN L k)
noncomputable def partN (L : List C) (k : Nat) : List C := rchL (leftN L k) [at3 (leftN L k) 0]
noncomputable def partsK (L : List C) (k : Nat) : List (List C) := (List.range k).map (partN L)
noncomputable def partsF : Nat → List C → List (List C)
  | 0, _ => []
  | f + 1, L => if L = [] then [] else rchL L [at3 L 0] :: partsF f (restL L)
noncomputable def partsL (L : List C) : List (List C) := partsF L.length L
theorem restL_valid {X Y Z : Int} {L : List C} (h : Valid X Y Z L) : Valid X Y Z (restL L) := h.filter _
theorem leftN_valid {X Y Z : Int} {L : List C} (h : Valid X Y Z L) : ∀ k, Valid X Y Z (leftN L k)
  | 0 => h
  | k + 1 => restL_valid (leftN_valid h k)
theorem partN_valid {X Y Z : Int} {L : List C} (h : Valid X Y Z L) (k : Nat) : Valid X Y Z (partN L k) := rchL_valid (leftN_valid h k) _
theorem head_rch {L : List C} (h : 0 < L.length) : at3 L 0 ∈ rchL L [at3 L 0] := rchL_mem.mpr (.base (at3_mem h) (by simp))
theorem restL_len {L : List C} (h : 0 < L.length) : (restL L).length < L.length := by
  unfold restL
  exact List.length_filter_lt_length_iff_exists.mpr ⟨_, at3_mem h, by rw [decide_eq_true (head_rch h)]; decide⟩
theorem leftN_len {L : List C} : ∀ k, (∀ j, j < k → 0 < (leftN L j).length) → (leftN L k).length + k ≤ L.length
  | 0, _ => by simp [leftN]
  | k + 1, h => by
    have ih := leftN_len k fun j hj => h j (by omega)
    have := restL_len (h k (by omega))
    simp only [leftN]; omega
theorem leftN_shift (L : List C) : ∀ k, leftN L (k + 1) = leftN (restL L) k
  | 0 => rfl
  | k + 1 => by simp only [leftN]; rw [← leftN_shift L k]; rfl
theorem partN_shift (L : List C) (k : Nat) : partN L (k + 1) = partN (restL L) k := by unfold partN; rw [leftN_shift]
theorem partsK_succ (L : List C) (k : Nat) : partsK L (k + 1) = partsK L k ++ [partN L k] := by simp [partsK, List.range_succ]
theorem parts_end : ∀ (k f : Nat) (L : List C), k ≤ f → (leftN L k).length = 0 → (∀ j, j < k → 0 < (leftN L j).length) → partsF f L = partsK L k
  | 0, f, L, _, h0, _ => by
    have : L = [] := List.eq_nil_of_length_eq_zero h0
    subst this
    cases f with
    | zero => rfl
    | succ f => simp [partsF, partsK]
  | k + 1, f, L, hf, h0, hj => by
    obtain ⟨f, rfl⟩ : ∃ g, f = g + 1 := ⟨f - 1, by omega⟩
    have hne : L ≠ [] := fun e => by have := hj 0 (by omega); subst e; simp [leftN] at this
    have ih := parts_end k f (restL L) (by omega) (by rw [← leftN_shift]; exact h0) fun j hjk => by rw [← leftN_shift]; exact hj (j + 1) (by omega)
    simp only [partsF]
    rw [if_neg hne, ih]
    unfold partsK
    rw [List.range_succ_eq_map, List.map_cons, List.map_map]
    congr 1
    refine List.map_congr_left fun j _ => ?_
    simp only [Function.comp, Nat.succ_eq_add_one]
    exact (partN_shift L j).symm
theorem partsL_end {L : List C} {k : Nat} (h0 : (leftN L k).length = 0) (hj : ∀ j, j < k → 0 < (leftN L j).length) : partsL L = partsK L k :=
  parts_end k _ L (by have := leftN_len k hj; omega) h0 hj
/-- What is left is closed. -/
theorem leftN_sub (L : List C) : ∀ k, ∀ c ∈ leftN L k, c ∈ L
  | 0, c, h => h
  | k + 1, c, h => leftN_sub L k c (List.mem_filter.mp h).1
theorem leftN_closed (L : List C) : ∀ k, ∀ c ∈ leftN L k, ∀ e ∈ L, adjR c e → e ∈ leftN L k
  | 0, c, hc, e, he, _ => he
  | k + 1, c, hc, e, he, ha => by
    simp only [leftN, restL, List.mem_filter, Bool.not_eq_true', decide_eq_false_iff_not] at hc ⊢
    have h1 := leftN_closed L k c hc.1 e he ha
    refine ⟨h1, fun g => hc.2 ?_⟩
    rw [rchL_mem] at g ⊢
    exact .step g (adjR_symm _ _ ha) hc.1
theorem rch_left {L : List C} {k : Nat} {c e : C} (hc : c ∈ leftN L k) (h : Rch adjR (fun x => x ∈ L) (fun x => x = c) e) : Rch adjR (fun x => x ∈ leftN L k) (fun x => x = c) e := by
  induction h with
  | base _ h2 => subst h2; exact .base hc rfl
  | step _ h2 h3 ih => exact .step ih h2 (leftN_closed L k _ ih.mem _ h3 h2)
/-- A part is all to which neighbours lead from one of its cells. -/
theorem partN_iff {L : List C} {k : Nat} {c e : C} (hc : c ∈ partN L k) : e ∈ partN L k ↔ Rch adjR (fun x => x ∈ L) (fun x => x = c) e := by
  unfold partN at *
  rw [rchL_mem] at *
  have h0 : Rch adjR (fun x => x ∈ leftN L k) (fun x => x = at3 (leftN L k) 0) c := hc.mono fun x hx => by simpa using hx
  constructor
  · intro h
    have h1 : Rch adjR (fun x => x ∈ leftN L k) (fun x => x = at3 (leftN L k) 0) e := h.mono fun x hx => by simpa using hx
    exact (h0.symm adjR_symm).trans h1 |>.congr (fun x hx => leftN_sub L k x hx) fun x _ hx => hx
  · intro h
    have h1 := rch_left hc.mem h
    exact (h0.trans h1).mono fun x hx => by simp [hx]
theorem left_or_part {L : List C} {c : C} (hc : c ∈ L) : ∀ k, c ∈ leftN L k ∨ ∃ j, j < k ∧ c ∈ partN L j
  | 0 => .inl hc
  | k + 1 => by
    rcases left_or_part hc k with h | ⟨j, h1, h2⟩
    · by_cases g : c ∈ partN L k
      · exact .inr ⟨k, by omega, g⟩
      · refine .inl ?_
        simp only [leftN, restL, List.mem_filter, Bool.not_eq_true', decide_eq_false_iff_not]
        exact ⟨h, g⟩
    · exact .inr ⟨j, by omega, h2⟩
theorem partN_sub {L : List C} {k : Nat} {c : C} (h : c ∈ partN L k) : c ∈ L := leftN_sub L k c (by unfold partN at h; exact (rchL_mem.mp h).mem)

/-! ### Standing cubes -/
def flrF (c : C) : Bool := decide (c.2.2 = 0)
noncomputable def stand (L : List C) : List C := rchL L (L.filter flrF)
theorem stand_mem {L : List C} {c : C} : c ∈ stand L ↔ ∃ e ∈ L, e.2.2 = 0 ∧ Rch adjR (fun x => x ∈ L) (fun x => x = e) c := by
  unfold stand
  rw [rchL_mem]
  constructor
  · intro h
    obtain ⟨e, h1, h2, h3⟩ := h.from
    exact ⟨e, h1, by simpa [flrF] using (List.mem_filter.mp h2).2, h3⟩
  · rintro ⟨e, h1, h2, h3⟩
    exact h3.mono fun x hx => by subst hx; exact List.mem_filter.mpr ⟨h1, by simpa [flrF] using h2⟩
theorem part_stand {L : List C} {k : Nat} {c : C} (hc : c ∈ partN L k) : c ∈ stand L ↔ ∃ e ∈ partN L k, e.2.2 = 0 := by
  rw [stand_mem]
  constructor
  · rintro ⟨e, h1, h2, h3⟩
    exact ⟨e, (partN_iff hc).mpr (h3.symm adjR_symm), h2⟩
  · rintro ⟨e, h1, h2⟩
    exact ⟨e, partN_sub h1, h2, ((partN_iff hc).mp h1).symm adjR_symm⟩
theorem stand_valid {X Y Z : Int} {L : List C} (h : Valid X Y Z L) : Valid X Y Z (stand L) := rchL_valid h _
theorem stand_sub {L : List C} {c : C} (h : c ∈ stand L) : c ∈ L := by unfold stand at h; exact (rchL_mem.mp h).mem
/-- The cubes that stand, or those that hang. -/
noncomputable def partedL (L : List C) (hang : Bool) : List C := L.filter fun c => decide (c ∈ stand L) != hang
theorem parted_F {X Y Z : Int} {L : List C} (h : Valid X Y Z L) : partedL L false = stand L :=
  (h.filter _).ext (stand_valid h) fun c hc => by
    rw [List.mem_filter]
    constructor
    · intro g; have := g.2; simpa using this
    · intro g; exact ⟨stand_sub g, by simpa using g⟩
theorem parted_T (L : List C) : partedL L true = L.filter fun c => !decide (c ∈ stand L) := by unfold partedL; simp
/-- The reference's way: part after part. -/
structure Ptd (X Y Z : Int) (L : List C) (hang : Bool) (k : Nat) (O : List C) : Prop where
  valid : Valid X Y Z O
  mem : ∀ c, c ∈ O ↔ (∃ j, j < k ∧ c ∈ partN L j) ∧ (decide (c ∈ stand L) != hang) = true
theorem Ptd.start {X Y Z : Int} {L : List C} (hX : Box X Y Z) (hang : Bool) : Ptd X Y Z L hang 0 [] := ⟨valid_nil hX, fun c => by simp⟩
/-- Some cells of a part put in. -/
structure Ptd2 (X Y Z : Int) (L : List C) (O : List C) (k i : Nat) (O' : List C) : Prop where
  valid : Valid X Y Z O'
  mem : ∀ c, c ∈ O' ↔ c ∈ O ∨ ∃ j, j < i ∧ j < (partN L k).length ∧ at3 (partN L k) j = c
theorem Ptd2.start {X Y Z : Int} {L O : List C} {k : Nat} (h : Valid X Y Z O) : Ptd2 X Y Z L O k 0 O := ⟨h, fun c => by simp⟩
theorem Ptd2.next {X Y Z : Int} {L O O' : List C} {k i : Nat} (hL : Valid X Y Z L) (h : Ptd2 X Y Z L O k i O') (hi : i < (partN L k).length) : Ptd2 X Y Z L O k (i + 1) (withC O' (at3 (partN L k) i)) := by
  obtain ⟨h1, h2⟩ := withC_valid h.valid ((partN_valid hL k).inn _ (at3_mem hi))
  refine ⟨h1, fun c => ?_⟩
  rw [h2, h.mem]
  constructor
  · rintro ((g | ⟨j, g1, g2, g3⟩) | g)
    · exact .inl g
    · exact .inr ⟨j, by omega, g2, g3⟩
    · exact .inr ⟨i, by omega, hi, g.symm⟩
  · rintro (g | ⟨j, g1, g2, g3⟩)
    · exact .inl (.inl g)
    · rcases Nat.lt_or_ge j i with g | g
      · exact .inl (.inr ⟨j, g, g2, g3⟩)
      · obtain rfl : j = i := by omega
        exact .inr g3.symm
/-- Has the first cells of a part one on the floor? -/
def flrN (L : List C) (i : Nat) : Bool := (L.take i).any flrF
theorem flrN_zero (L : List C) : flrN L 0 = false := by simp [flrN]
theorem flrN_succ {L : List C} {i : Nat} (h : i < L.length) : flrN L (i + 1) = (flrN L i || decide ((at3 L i).2.2 = 0)) := by
  unfold flrN; rw [take_succ3 h, List.any_append]; simp [flrF]
theorem flr_stand {L : List C} {k : Nat} {c : C} (hc : c ∈ partN L k) : decide (c ∈ stand L) = flrN (partN L k) (partN L k).length := by
  unfold flrN
  rw [List.take_length, Bool.eq_iff_iff, decide_eq_true_eq, part_stand hc, List.any_eq_true]
  simp [flrF]
theorem Ptd.step {X Y Z : Int} {L O O' : List C} {hang : Bool} {k i : Nat} (h : Ptd X Y Z L hang k O) (h2 : Ptd2 X Y Z L O k i O') (hi : (i = (partN L k).length ∧ (flrN (partN L k) (partN L k).length != hang) = true) ∨ (i = 0 ∧ (flrN (partN L k) (partN L k).length != hang) = false)) : Ptd X Y Z L hang (k + 1) O' := by
  refine ⟨h2.valid, fun c => ?_⟩
  rw [h2.mem, h.mem]
  constructor
  · rintro (⟨⟨j, g1, g2⟩, g3⟩ | ⟨j, g1, g2, g3⟩)
    · exact ⟨⟨j, by omega, g2⟩, g3⟩
    · rcases hi with ⟨_, e⟩ | ⟨e, _⟩
      · have hm : c ∈ partN L k := by rw [← g3]; exact at3_mem g2
        exact ⟨⟨k, by omega, hm⟩, by rw [flr_stand hm]; exact e⟩
      · omega
  · rintro ⟨⟨j, g1, g2⟩, g3⟩
    rcases Nat.lt_or_ge j k with g | g
    · exact .inl ⟨⟨j, g, g2⟩, g3⟩
    · obtain rfl : j = k := by omega
      rcases hi with ⟨e, _⟩ | ⟨_, e⟩
      · obtain ⟨m, hm, em⟩ := mem_at3 g2
        exact .inr ⟨m, by omega, hm, em⟩
      · rw [flr_stand g2, e] at g3; simp at g3
theorem Ptd.all {X Y Z : Int} {L O : List C} {hang : Bool} {k : Nat} (hL : Valid X Y Z L) (h : Ptd X Y Z L hang k O) (h0 : (leftN L k).length = 0) : O = partedL L hang := by
  refine h.valid.ext (hL.filter _) fun c hc => ?_
  rw [h.mem, partedL, List.mem_filter]
  constructor
  · rintro ⟨⟨j, _, g⟩, g2⟩; exact ⟨partN_sub g, g2⟩
  · rintro ⟨g, g2⟩
    refine ⟨?_, g2⟩
    rcases left_or_part g k with e | e
    · have : leftN L k = [] := List.eq_nil_of_length_eq_zero h0
      rw [this] at e; simp at e
    · exact e
/-- All cubes stand. -/
noncomputable def stdB (L : List C) : Bool := decide ((partedL L true).length = 0)
theorem stdB_iff {X Y Z : Int} {L : List C} (h : Valid X Y Z L) : stdB L = true ↔ stand L = L := by
  unfold stdB
  rw [decide_eq_true_eq, List.length_eq_zero_iff, parted_T, List.filter_eq_nil_iff]
  constructor
  · intro g
    refine (stand_valid h).ext h fun c _ => ⟨stand_sub, fun hc => ?_⟩
    have := g c hc
    simpa using this
  · intro g c hc
    rw [g]; simp [hc]
theorem stand_mask {X Y Z : Int} {L : List C} (h : Valid X Y Z L) : decide (mask Y Z (stand L) = mask Y Z L) = stdB L := by
  rw [Bool.eq_iff_iff, decide_eq_true_eq, stdB_iff h]
  exact (rep_mask (stand_valid h)).eq_iff (rep_mask h)
/-- A cube can be taken. -/
noncomputable def canB (L : List C) (c : C) : Bool := decide (c ∈ L) && stdB (without L c)
theorem Rep.toMask {X Y Z : Int} {s : BitVec 64} {L : List C} (h : Rep X Y Z s L) : s = mask Y Z L := h.eq (rep_mask h.valid)
/-- The lowest bit: the first cell. -/
theorem low_bit {s : BitVec 64} {i : Nat} (hi : i < 64) (h1 : s.getLsbD i = true) (h2 : ∀ j, j < i → s.getLsbD j = false) : s &&& -s = 1#64 <<< i := by
  apply BitVec.eq_of_getLsbD_eq
  intro j hj
  rw [BitVec.getLsbD_and, BitVec.getLsbD_neg, bit_get hj]
  rcases Nat.lt_or_ge j i with g | g
  · have : ¬ j = i := by omega
    simp [h2 j g, this]
  · rcases Nat.eq_or_lt_of_le g with e | g
    · subst e
      have : ¬ ∃ k, k < i ∧ s.getLsbD k = true := by rintro ⟨k, hk, e⟩; rw [h2 k hk] at e; simp at e
      simp [h1, this, hi]
    · have h3 : ∃ k, k < j ∧ s.getLsbD k = true := ⟨i, g, h1⟩
      have : ¬ j = i := by omega
      cases h : s.getLsbD j <;> simp [h3, this, hj]
theorem rep_low {X Y Z : Int} {s : BitVec 64} {L : List C} (h : Rep X Y Z s L) (hne : 0 < L.length) : s &&& -s = 1#64 <<< cellIx Y Z (at3 L 0) := by
  have hX := h.valid.box
  have hm := at3_mem hne
  have hin := h.valid.inn _ hm
  refine low_bit (cellIx_lt64 hX hin) ((h.mem _ hin).mpr hm) fun j hj => ?_
  cases e : s.getLsbD j with
  | false => rfl
  | true =>
    exfalso
    have h64 := cellIx_lt64 hX hin
    have hjv := h.top j (by omega) e
    have hc := cellAt_in hX hjv
    have h2 := (h.mem _ hc).mp (by rw [ix_cellAt hX hjv]; exact e)
    obtain ⟨k, hk, e2⟩ := mem_at3 h2
    rcases Nat.eq_zero_or_pos k with g | g
    · subst g; rw [e2, ix_cellAt hX hjv] at hj; omega
    · have := ix_mono h.valid g hk
      rw [e2, ix_cellAt hX hjv] at this; omega
theorem parts_ex : ∀ (m : Nat) (L : List C), L.length ≤ m → ∃ k, (leftN L k).length = 0 ∧ ∀ j, j < k → 0 < (leftN L j).length
  | 0, L, h => ⟨0, by simp only [leftN]; omega, fun j hj => absurd hj (by omega)⟩
  | m + 1, L, h => by
    rcases Nat.eq_zero_or_pos L.length with e | e
    · exact ⟨0, by simp only [leftN]; omega, fun j hj => absurd hj (by omega)⟩
    · obtain ⟨k, h1, h2⟩ := parts_ex m (restL L) (by have := restL_len e; omega)
      refine ⟨k + 1, by rw [leftN_shift]; exact h1, fun j hj => ?_⟩
      cases j with
      | zero => exact e
      | succ j => rw [leftN_shift]; exact h2 j (by omega)
/-- How many parts there are. -/
noncomputable def prtN (L : List C) : Nat := (partsL L).length
theorem prtN_end {L : List C} {k : Nat} (h0 : (leftN L k).length = 0) (hj : ∀ j, j < k → 0 < (leftN L j).length) : prtN L = k := by
  unfold prtN; rw [partsL_end h0 hj]; simp [partsK]
theorem prtN_left (L : List C) : (leftN L (prtN L)).length = 0 ∧ ∀ j, j < prtN L → 0 < (leftN L j).length := by
  obtain ⟨k, h1, h2⟩ := parts_ex _ L (Nat.le_refl _)
  rw [prtN_end h1 h2]; exact ⟨h1, h2⟩
theorem prtN_le (L : List C) : prtN L ≤ L.length := by
  have := leftN_len (prtN L) (prtN_left L).2; omega
theorem Ptd.step2 {X Y Z : Int} {L O O' : List C} {hang : Bool} {k i : Nat} (h : Ptd X Y Z L hang k O) (h2 : Ptd2 X Y Z L O k i O') (ha : i = (partN L k).length ∨ (flrN (partN L k) (partN L k).length != hang) = false) (hb : i = 0 ∨ (flrN (partN L k) (partN L k).length != hang) = true) : Ptd X Y Z L hang (k + 1) O' := by
  refine h.step h2 ?_
  cases e : (flrN (partN L k) (partN L k).length != hang) with
  | true => exact .inl ⟨ha.resolve_right (by rw [e]; simp), rfl⟩
  | false => exact .inr ⟨hb.resolve_right (by rw [e]; simp), rfl⟩
theorem Rep.those_inter {X Y Z : Int} {s : BitVec 64} {L : List C} (h : Rep X Y Z s L) (f : C → Bool) : Rep X Y Z (s &&& thoseTo Y Z f (vol X Y Z)) (L.filter f) := by
  have hX := h.valid.box
  refine (h.inter (rep_those hX f)).congr (h.valid.filter f) fun c hc => ?_
  simp only [List.mem_filter, decide_eq_true_eq, allC_mem hX]
  exact ⟨fun g => ⟨g.1, g.2.2⟩, fun g => ⟨g.1, hc, g.2⟩⟩
theorem parts_row {L : List C} {k : Nat} (h : k < prtN L) : (partN L k).length ≤ L.length := by
  have h1 : (partN L k).length ≤ (leftN L k).length := by unfold partN rchL; exact List.length_filter_le _ _
  have h2 := leftN_len k fun j hj => (prtN_left L).2 j (by omega)
  omega
theorem std_dec (L : List C) : decide ((((partedL L true).length : Nat) : Int) = 0) = stdB L := by
  unfold stdB; rw [decide_eq_decide]; omega
theorem canB_no {L : List C} {c : C} (h : ¬ c ∈ L) : canB L c = false := by unfold canB; rw [decide_eq_false h, Bool.false_and]
theorem canB_yes {L : List C} {c : C} (h : c ∈ L) : canB L c = stdB (without L c) := by unfold canB; rw [decide_eq_true h, Bool.true_and]
theorem key_cells {X Y Z : Int} {cs : List C} (hv : Valid X Y Z cs) : cellsOf X Y Z (mask Y Z cs &&& ~~~ thoseTo Y Z (canB cs) (vol X Y Z)) = cs.filter fun c => !canB cs c := by
  have hX := hv.box
  refine (((rep_mask hv).diff (rep_those hX (canB cs))).congr (hv.filter _) fun c hc => ?_).cells
  refine ⟨fun g => ?_, fun g => ?_⟩
  · obtain ⟨g1, g2⟩ := List.mem_filter.mp g
    refine List.mem_filter.mpr ⟨g1, ?_⟩
    cases e : canB cs c with
    | false => rfl
    | true => rw [decide_eq_true (List.mem_filter.mpr ⟨(allC_mem hX).mpr hc, e⟩)] at g2; simp at g2
  · obtain ⟨g1, g2⟩ := List.mem_filter.mp g
    refine List.mem_filter.mpr ⟨g1, ?_⟩
    rw [decide_eq_false (fun h => by rw [(List.mem_filter.mp h).2] at g2; simp at g2)]; rfl
/-- Can the cubes be taken in this order? -/
noncomputable def tkB : List C → List C → Bool
  | L, [] => decide (L = [])
  | L, c :: l => canB L c && tkB (without L c) l
theorem tkB_step {L ds : List C} {i : Nat} (h : i < ds.length) : tkB L (ds.drop i) = (canB L (at3 ds i) && tkB (without L (at3 ds i)) (ds.drop (i + 1))) := by
  rw [drop_getD h]; rfl
theorem tkB_end {L ds : List C} {i : Nat} (h : ds.length ≤ i) : tkB L (ds.drop i) = decide ((L.length : Int) = 0) := by
  rw [List.drop_eq_nil_of_le h]
  simp only [tkB, decide_eq_decide]
  rw [← List.length_eq_zero_iff]; omega
theorem tkB_endS {X Y Z : Int} {s : BitVec 64} {L ds : List C} {i : Nat} (hr : Rep X Y Z s L) (h : ds.length ≤ i) : tkB L (ds.drop i) = decide (s = 0#64) := by
  rw [List.drop_eq_nil_of_le h]
  simp only [tkB, decide_eq_decide]
  exact hr.zero_iff.symm
end Go.Sep
