/- Heaps as sets of cells' numbers. -/
import Derived.Test.YtkfhblkjllbejaaMath
import Derived.Test.YtkfhblkjllbejaaAppn
namespace Go.Sep
open Go
set_option linter.unusedVariables false
set_option linter.unusedSimpArgs false

/-! ### The number of a cell -/
def cellIx (Y Z : Int) (c : C) : Nat := ((c.1 * Y + c.2.1) * Z + c.2.2).toNat
def vol (X Y Z : Int) : Nat := (X * Y * Z).toNat
def cellAt (Y Z : Int) (i : Nat) : C := ((((i : Int) / Z) / Y), (((i : Int) / Z) % Y), ((i : Int) % Z))
abbrev Box (X Y Z : Int) : Prop := (1 ≤ X ∧ X ≤ 4) ∧ (1 ≤ Y ∧ Y ≤ 4) ∧ (1 ≤ Z ∧ Z ≤ 4)
abbrev In (X Y Z : Int) (c : C) : Prop := (0 ≤ c.1 ∧ c.1 < X) ∧ (0 ≤ c.2.1 ∧ c.2.1 < Y) ∧ (0 ≤ c.2.2 ∧ c.2.2 < Z)

theorem ix3 {X Y Z : Int} {c : C} (hX : Box X Y Z) (hc : In X Y Z c) : 0 ≤ (c.1 * Y + c.2.1) * Z + c.2.2 ∧ (c.1 * Y + c.2.1) * Z + c.2.2 < X * Y * Z := by
  have h1 := ix2 hc.1 hc.2.1 hX.2.1
  obtain ⟨_, _, hZ⟩ := hX
  obtain ⟨_, _, hc2⟩ := hc
  generalize c.1 * Y + c.2.1 = a at h1
  generalize X * Y = b at h1
  obtain rfl | rfl | rfl | rfl : Z = 1 ∨ Z = 2 ∨ Z = 3 ∨ Z = 4 := by omega
  all_goals omega
theorem cellIx_cast {X Y Z : Int} {c : C} (hX : Box X Y Z) (hc : In X Y Z c) : (c.1 * Y + c.2.1) * Z + c.2.2 = (cellIx Y Z c : Int) := by
  have := ix3 hX hc; unfold cellIx; omega
theorem cellIx_lt {X Y Z : Int} {c : C} (hX : Box X Y Z) (hc : In X Y Z c) : cellIx Y Z c < vol X Y Z := by
  have := ix3 hX hc; unfold cellIx vol; omega
theorem vol_le {X Y Z : Int} (hX : Box X Y Z) : 1 ≤ vol X Y Z ∧ vol X Y Z ≤ 64 := by
  have h := mulXY hX.1 hX.2.1
  unfold vol
  generalize X * Y = b at h
  obtain ⟨_, _, hZ⟩ := hX
  obtain rfl | rfl | rfl | rfl : Z = 1 ∨ Z = 2 ∨ Z = 3 ∨ Z = 4 := by omega
  all_goals omega
theorem vol_cast {X Y Z : Int} (hX : Box X Y Z) : X * Y * Z = (vol X Y Z : Int) := by
  have h := mulXY hX.1 hX.2.1
  unfold vol
  generalize X * Y = b at h
  obtain ⟨_, _, hZ⟩ := hX
  obtain rfl | rfl | rfl | rfl : Z = 1 ∨ Z = 2 ∨ Z = 3 ∨ Z = 4 := by omega
  all_goals omega
theorem cellIx_lt64 {X Y Z : Int} {c : C} (hX : Box X Y Z) (hc : In X Y Z c) : cellIx Y Z c < 64 := by
  have h1 := cellIx_lt hX hc; have h2 := vol_le hX; omega
/-- Cells in order: their numbers rise. -/
theorem before_ix {X Y Z : Int} {a b : C} (hX : Box X Y Z) (ha : In X Y Z a) (hb : In X Y Z b) : before a b = true ↔ cellIx Y Z a < cellIx Y Z b := by
  have e1 := cellIx_cast hX ha
  have e2 := cellIx_cast hX hb
  obtain ⟨a1, a2, a3⟩ := a
  obtain ⟨b1, b2, b3⟩ := b
  obtain ⟨_, hY, hZ⟩ := hX
  simp only [In] at ha hb
  simp only at e1 e2
  have key : before (a1, a2, a3) (b1, b2, b3) = true ↔ (a1 * Y + a2) * Z + a3 < (b1 * Y + b2) * Z + b3 := by
    obtain rfl | rfl | rfl | rfl : Y = 1 ∨ Y = 2 ∨ Y = 3 ∨ Y = 4 := by omega
    all_goals
      obtain rfl | rfl | rfl | rfl : Z = 1 ∨ Z = 2 ∨ Z = 3 ∨ Z = 4 := by omega
      all_goals
        by_cases h1 : a1 = b1
        · by_cases h2 : a2 = b2
          · by_cases h3 : a3 = b3
            · simp [before, h1, h2, h3]
            · simp [before, h1, h2, h3]
          · simp [before, h1, h2]; omega
        · simp [before, h1]; omega
  rw [key, e1, e2]
  omega
theorem ix_inj {X Y Z : Int} {a b : C} (hX : Box X Y Z) (ha : In X Y Z a) (hb : In X Y Z b) (h : cellIx Y Z a = cellIx Y Z b) : a = b := by
  have e1 := cellIx_cast hX ha
  have e2 := cellIx_cast hX hb
  rw [h, ← e2] at e1
  obtain ⟨a1, a2, a3⟩ := a
  obtain ⟨b1, b2, b3⟩ := b
  obtain ⟨_, hY, hZ⟩ := hX
  simp only [In] at ha hb
  simp only at e1
  obtain rfl | rfl | rfl | rfl : Y = 1 ∨ Y = 2 ∨ Y = 3 ∨ Y = 4 := by omega
  all_goals
    obtain rfl | rfl | rfl | rfl : Z = 1 ∨ Z = 2 ∨ Z = 3 ∨ Z = 4 := by omega
    all_goals
      simp only [Prod.mk.injEq]
      omega
theorem cellAt_in {X Y Z : Int} (hX : Box X Y Z) {i : Nat} (hi : i < vol X Y Z) : In X Y Z (cellAt Y Z i) := by
  have hv := vol_cast hX
  obtain ⟨hX', hY, hZ⟩ := hX
  unfold cellAt
  simp only [In]
  obtain rfl | rfl | rfl | rfl : Y = 1 ∨ Y = 2 ∨ Y = 3 ∨ Y = 4 := by omega
  all_goals
    obtain rfl | rfl | rfl | rfl : Z = 1 ∨ Z = 2 ∨ Z = 3 ∨ Z = 4 := by omega
    all_goals omega
theorem ix_cellAt {X Y Z : Int} (hX : Box X Y Z) {i : Nat} (hi : i < vol X Y Z) : cellIx Y Z (cellAt Y Z i) = i := by
  have h := cellIx_cast hX (cellAt_in hX hi)
  obtain ⟨hX', hY, hZ⟩ := hX
  unfold cellAt at h ⊢
  simp only at h ⊢
  obtain rfl | rfl | rfl | rfl : Y = 1 ∨ Y = 2 ∨ Y = 3 ∨ Y = 4 := by omega
  all_goals
    obtain rfl | rfl | rfl | rfl : Z = 1 ∨ Z = 2 ∨ Z = 3 ∨ Z = 4 := by omega
    all_goals omega
theorem cellAt_ix {X Y Z : Int} {c : C} (hX : Box X Y Z) (hc : In X Y Z c) : cellAt Y Z (cellIx Y Z c) = c :=
  ix_inj hX (cellAt_in hX (cellIx_lt hX hc)) hc (ix_cellAt hX (cellIx_lt hX hc))

theorem mulZ_bd {a Z : Int} (ha : 0 ≤ a ∧ a ≤ 16) (hZ : 1 ≤ Z ∧ Z ≤ 4) : 0 ≤ a * Z ∧ a * Z ≤ 64 := by
  obtain rfl | rfl | rfl | rfl : Z = 1 ∨ Z = 2 ∨ Z = 3 ∨ Z = 4 := by omega
  all_goals omega
theorem tdiv_ediv {i k : Int} (h : 0 ≤ i) : i.tdiv k = i / k := Int.tdiv_eq_ediv_of_nonneg h
theorem tmod_emod {i k : Int} (h : 0 ≤ i) : i.tmod k = i % k := Int.tmod_eq_emod_of_nonneg h
theorem quo_bd {i k : Int} (hi : 0 ≤ i ∧ i ≤ 64) (hk : 1 ≤ k ∧ k ≤ 4) : (0 ≤ i.tdiv k ∧ i.tdiv k ≤ 64) ∧ (0 ≤ i.tmod k ∧ i.tmod k ≤ 3) ∧ 0 ≤ i.tdiv k := by
  rw [tdiv_ediv hi.1, tmod_emod hi.1]
  obtain rfl | rfl | rfl | rfl : k = 1 ∨ k = 2 ∨ k = 3 ∨ k = 4 := by omega
  all_goals omega

theorem cellAt_t {Y Z : Int} {i : Nat} (hY : 1 ≤ Y) (hZ : 1 ≤ Z) : cellAt Y Z i = (((i : Int).tdiv Z).tdiv Y, ((i : Int).tdiv Z).tmod Y, (i : Int).tmod Z) := by
  have h0 : 0 ≤ (i : Int) := by omega
  have h1 : 0 ≤ (i : Int) / Z := Int.ediv_nonneg h0 (by omega)
  rw [tdiv_ediv h0, tdiv_ediv h1, tmod_emod h1, tmod_emod h0]; rfl
/-! ### Bits -/
theorem has_bit {s : BitVec 64} {i : Nat} (hi : i < 64) : decide ((s >>> i) &&& 1#64 = 1#64) = s.getLsbD i := by
  have h : ((s >>> i) &&& 1#64 = 1#64) ↔ s.getLsbD i = true := by
    constructor
    · intro h
      have := congrArg (fun x : BitVec 64 => x.getLsbD 0) h
      simpa using this
    · intro h
      apply BitVec.eq_of_getLsbD_eq
      intro j hj
      rw [BitVec.getLsbD_and, BitVec.getLsbD_one]
      rcases Nat.eq_zero_or_pos j with e | e
      · subst e; simp [h]
      · have : j ≠ 0 := by omega
        simp [this]
  by_cases g : s.getLsbD i = true
  · rw [g]; exact decide_eq_true (h.mpr g)
  · rw [Bool.not_eq_true] at g
    rw [g]; exact decide_eq_false (fun e => by rw [h.mp e] at g; simp at g)
theorem bit_get {k j : Nat} (hj : j < 64) : ((1#64 : BitVec 64) <<< k).getLsbD j = decide (j = k) := by
  rw [BitVec.getLsbD_shiftLeft]
  by_cases h : j = k
  · subst h; simp [hj]
  · simp only [h, decide_false, hj, decide_true, Bool.true_and]
    by_cases h2 : j < k
    · simp [h2]
    · have : j - k ≠ 0 := by omega
      simp [h2, BitVec.getLsbD_one, this]
/-- The set of some cells. -/
def maskN (Y Z : Int) (cs : List C) (i : Nat) : BitVec 64 := (cs.take i).foldl (fun s c => s ||| 1#64 <<< cellIx Y Z c) 0#64
def mask (Y Z : Int) (cs : List C) : BitVec 64 := maskN Y Z cs cs.length
theorem maskN_zero (Y Z : Int) (cs : List C) : maskN Y Z cs 0 = 0#64 := rfl
theorem maskN_succ {Y Z : Int} {cs : List C} {i : Nat} (h : i < cs.length) : maskN Y Z cs i ||| 1#64 <<< cellIx Y Z (at3 cs i) = maskN Y Z cs (i + 1) := by
  unfold maskN
  rw [take_succ3 h, List.foldl_append]; rfl
theorem foldl_or_get {Y Z : Int} {j : Nat} (hj : j < 64) : ∀ (l : List C) (s : BitVec 64), (l.foldl (fun s c => s ||| 1#64 <<< cellIx Y Z c) s).getLsbD j = (s.getLsbD j || l.any fun c => decide (cellIx Y Z c = j))
  | [], s => by simp
  | c :: l, s => by
    rw [List.foldl_cons, foldl_or_get hj l, BitVec.getLsbD_or, bit_get hj, List.any_cons, Bool.or_assoc]
    congr 2
    rw [decide_eq_decide]; exact eq_comm
theorem mask_get {Y Z : Int} {cs : List C} {j : Nat} (hj : j < 64) : (mask Y Z cs).getLsbD j = cs.any fun c => decide (cellIx Y Z c = j) := by
  unfold mask maskN
  rw [List.take_length, foldl_or_get hj]; simp

/-! ### Rising lists -/
def Rise : List Nat → Prop := List.Pairwise (· < ·)
theorem Rise.ext : ∀ {a b : List Nat}, Rise a → Rise b → (∀ x, x ∈ a ↔ x ∈ b) → a = b
  | [], [], _, _, _ => rfl
  | [], y :: b, _, _, h => by have := (h y).mpr (by simp); simp at this
  | x :: a, [], _, _, h => by have := (h x).mp (by simp); simp at this
  | x :: a, y :: b, ha, hb, h => by
    obtain ⟨h1, h2⟩ := List.pairwise_cons.mp ha
    obtain ⟨h3, h4⟩ := List.pairwise_cons.mp hb
    have hxy : x = y := by
      have hx := (h x).mp (by simp)
      have hy := (h y).mpr (by simp)
      rcases List.mem_cons.mp hx with e | hx
      · exact e
      · rcases List.mem_cons.mp hy with e | hy
        · exact e.symm
        · have := h3 x hx; have := h1 y hy; omega
    subst hxy
    congr 1
    refine Rise.ext h2 h4 fun z => ⟨fun hz => ?_, fun hz => ?_⟩
    · rcases List.mem_cons.mp ((h z).mp (List.mem_cons_of_mem _ hz)) with e | g
      · subst e; exact absurd (h1 z hz) (Nat.lt_irrefl _)
      · exact g
    · rcases List.mem_cons.mp ((h z).mpr (List.mem_cons_of_mem _ hz)) with e | g
      · subst e; exact absurd (h3 z hz) (Nat.lt_irrefl _)
      · exact g
theorem rise_range (n : Nat) : Rise (List.range n) := List.pairwise_lt_range
theorem Rise.filter {l : List Nat} (h : Rise l) (p : Nat → Bool) : Rise (l.filter p) := List.Pairwise.filter p h

theorem inBox_of {X Y Z : Int} {c : C} (h : In X Y Z c) : inBox X Y Z c = true := by
  simp only [In] at h
  simp [inBox, within]; omega

/-! ### Heaps -/
/-- A valid heap, as the laws need it. -/
structure Valid (X Y Z : Int) (cs : List C) : Prop where
  box : Box X Y Z
  inn : ∀ c ∈ cs, In X Y Z c
  rise : Rise (cs.map (cellIx Y Z))
theorem at3_mem {cs : List C} {j : Nat} (h : j < cs.length) : at3 cs j ∈ cs := by
  simp only [at3, List.getD, List.getElem?_eq_getElem h, Option.getD_some]
  exact List.getElem_mem h
theorem mem_at3 {cs : List C} {c : C} (h : c ∈ cs) : ∃ j, j < cs.length ∧ at3 cs j = c := by
  obtain ⟨j, hj, rfl⟩ := List.getElem_of_mem h
  exact ⟨j, hj, by simp [at3, List.getD, hj]⟩
theorem isHeap_inn {X Y Z : Int} {cs : List C} (h : isHeap X Y Z cs = true) : ∀ c ∈ cs, In X Y Z c := fun c hc => by
  obtain ⟨j, hj, rfl⟩ := mem_at3 hc
  exact inBox_bd (isHeap_in h hj)
theorem isHeap_before {X Y Z : Int} {cs : List C} (h : isHeap X Y Z cs = true) {j : Nat} (hj : j + 1 < cs.length) : before (at3 cs j) (at3 cs (j + 1)) = true := by
  have := isHeap_at h hj
  simp only [okAt, Bool.and_eq_true, Bool.or_eq_true, decide_eq_true_eq, Nat.add_sub_cancel] at this
  rcases this.2 with e | e
  · omega
  · exact e
theorem rise_of_step : ∀ (l : List Nat), (∀ j, j + 1 < l.length → l.getD j 0 < l.getD (j + 1) 0) → Rise l
  | [], _ => List.Pairwise.nil
  | [x], _ => by simp [Rise]
  | x :: y :: l, h => by
    have ih := rise_of_step (y :: l) fun j hj => by
      have := h (j + 1) (by simpa using hj)
      simpa using this
    refine List.pairwise_cons.mpr ⟨fun z hz => ?_, ih⟩
    have h0 := h 0 (by simp)
    simp at h0
    rcases List.mem_cons.mp hz with e | hz
    · omega
    · have := (List.pairwise_cons.mp ih).1 z hz; omega
theorem valid_of {X Y Z : Int} {cs : List C} (h : isHeap X Y Z cs = true) : Valid X Y Z cs := by
  have hb := sides_bd (isHeap_sides h)
  have hi := isHeap_inn h
  refine ⟨hb, hi, rise_of_step _ fun j hj => ?_⟩
  rw [List.length_map] at hj
  have h1 := isHeap_before h hj
  rw [before_ix hb (hi _ (at3_mem (by omega))) (hi _ (at3_mem hj))] at h1
  simpa [at3, List.getD, List.getElem?_map, show j < cs.length by omega, hj] using h1
theorem Valid.isHeap {X Y Z : Int} {cs : List C} (h : Valid X Y Z cs) : isHeap X Y Z cs = true := by
  have hb := h.box
  refine isHeap_yes (by simp [sides, within]; omega) fun j hj => ?_
  have hc := h.inn _ (at3_mem hj)
  have hin := inBox_of hc
  rcases Nat.eq_zero_or_pos j with e | e
  · exact okAt_yes1 hin e
  · refine okAt_yes3 hin ?_
    rw [before_ix hb (h.inn _ (at3_mem (by omega))) hc]
    have := List.pairwise_iff_getElem.mp h.rise (j - 1) j (by simp; omega) (by simpa using hj) (by omega)
    simpa [at3, List.getD, show j - 1 < cs.length by omega, hj] using this

/-- The cells of a set. -/
def idsOf (X Y Z : Int) (s : BitVec 64) : List Nat := (List.range (vol X Y Z)).filter fun i => s.getLsbD i
def cellsOf (X Y Z : Int) (s : BitVec 64) : List C := (idsOf X Y Z s).map (cellAt Y Z)
theorem ids_mem {X Y Z : Int} {s : BitVec 64} {i : Nat} : i ∈ idsOf X Y Z s ↔ i < vol X Y Z ∧ s.getLsbD i = true := by simp [idsOf]
theorem ids_rise (X Y Z : Int) (s : BitVec 64) : Rise (idsOf X Y Z s) := (rise_range _).filter _
theorem map_ix_cells {X Y Z : Int} {s : BitVec 64} (hX : Box X Y Z) : (cellsOf X Y Z s).map (cellIx Y Z) = idsOf X Y Z s := by
  unfold cellsOf
  rw [List.map_map]
  conv => rhs; rw [← List.map_id (idsOf X Y Z s)]
  refine List.map_congr_left fun i hi => ?_
  exact ix_cellAt hX (ids_mem.mp hi).1
theorem cells_mem {X Y Z : Int} {s : BitVec 64} {c : C} (hX : Box X Y Z) : c ∈ cellsOf X Y Z s ↔ In X Y Z c ∧ s.getLsbD (cellIx Y Z c) = true := by
  unfold cellsOf
  rw [List.mem_map]
  constructor
  · rintro ⟨i, hi, rfl⟩
    obtain ⟨h1, h2⟩ := ids_mem.mp hi
    exact ⟨cellAt_in hX h1, by rw [ix_cellAt hX h1]; exact h2⟩
  · rintro ⟨h1, h2⟩
    exact ⟨cellIx Y Z c, ids_mem.mpr ⟨cellIx_lt hX h1, h2⟩, cellAt_ix hX h1⟩
theorem cells_valid {X Y Z : Int} (s : BitVec 64) (hX : Box X Y Z) : Valid X Y Z (cellsOf X Y Z s) :=
  ⟨hX, fun c hc => ((cells_mem hX).mp hc).1, by rw [map_ix_cells hX]; exact ids_rise _ _ _ _⟩
/-- A valid heap's cells are known by what they are. -/
theorem Valid.ext {X Y Z : Int} {a b : List C} (ha : Valid X Y Z a) (hb : Valid X Y Z b) (h : ∀ c, In X Y Z c → (c ∈ a ↔ c ∈ b)) : a = b := by
  have key : a.map (cellIx Y Z) = b.map (cellIx Y Z) := by
    refine Rise.ext ha.rise hb.rise fun x => ?_
    simp only [List.mem_map]
    constructor
    · rintro ⟨c, hc, rfl⟩; exact ⟨c, (h c (ha.inn c hc)).mp hc, rfl⟩
    · rintro ⟨c, hc, rfl⟩; exact ⟨c, (h c (hb.inn c hc)).mpr hc, rfl⟩
  have back : ∀ (l : List C), (∀ c ∈ l, In X Y Z c) → (l.map (cellIx Y Z)).map (cellAt Y Z) = l := fun l hl => by
    rw [List.map_map]
    conv => rhs; rw [← List.map_id l]
    exact List.map_congr_left fun c hc => cellAt_ix ha.box (hl c hc)
  rw [← back a ha.inn, ← back b hb.inn, key]
theorem mask_mem {X Y Z : Int} {cs : List C} {c : C} (hX : Box X Y Z) (hi : ∀ c ∈ cs, In X Y Z c) (hc : In X Y Z c) : (mask Y Z cs).getLsbD (cellIx Y Z c) = true ↔ c ∈ cs := by
  rw [mask_get (cellIx_lt64 hX hc), List.any_eq_true]
  constructor
  · rintro ⟨d, hd, e⟩
    rw [← ix_inj hX (hi d hd) hc (by simpa using e)]; exact hd
  · intro h; exact ⟨c, h, by simp⟩
theorem cells_mask {X Y Z : Int} {cs : List C} (h : Valid X Y Z cs) : cellsOf X Y Z (mask Y Z cs) = cs :=
  (cells_valid _ h.box).ext h fun c hc => by rw [cells_mem h.box, mask_mem h.box h.inn hc]; exact ⟨fun x => x.2, fun x => ⟨hc, x⟩⟩

/-! ### The cells of a set, one after the other -/
def cellsTo (Y Z : Int) (s : BitVec 64) (i : Nat) : List C := ((List.range i).filter fun j => s.getLsbD j).map (cellAt Y Z)
theorem cellsTo_zero (Y Z : Int) (s : BitVec 64) : cellsTo Y Z s 0 = [] := rfl
theorem cellsTo_T {Y Z : Int} {s : BitVec 64} {i : Nat} (h : s.getLsbD i = true) : cellsTo Y Z s (i + 1) = cellsTo Y Z s i ++ [cellAt Y Z i] := by
  simp [cellsTo, List.range_succ, List.filter_append, h]
theorem cellsTo_F {Y Z : Int} {s : BitVec 64} {i : Nat} (h : s.getLsbD i = false) : cellsTo Y Z s (i + 1) = cellsTo Y Z s i := by
  simp [cellsTo, List.range_succ, List.filter_append, h]
theorem cellsTo_all (X Y Z : Int) (s : BitVec 64) : cellsTo Y Z s (vol X Y Z) = cellsOf X Y Z s := rfl
theorem cellsTo_len (Y Z : Int) (s : BitVec 64) (i : Nat) : (cellsTo Y Z s i).length ≤ i := by
  unfold cellsTo
  rw [List.length_map]
  exact Nat.le_trans (List.length_filter_le _ _) (by simp)
theorem flat_snoc (cs : List C) (c : C) : flat cs ++ [Value.int .i64 c.1, Value.int .i64 c.2.1, Value.int .i64 c.2.2] = flat (cs ++ [c]) := by
  rw [flat_append]; rfl

/-! ### Two numbers of a cell exchanged -/
def swpI (a b k : Nat) : Nat := if k = b then a else if k = a then b else k
def swp (a b : Nat) (c : C) : C := (ci c (swpI a b 0), ci c (swpI a b 1), ci c (swpI a b 2))
theorem swap_list {a b : Nat} (ha : a < 3) (hb : b < 3) (x y z : Int) :
    ([Value.int .i64 x, Value.int .i64 y, Value.int .i64 z].set (0 + a * 1) (.int .i64 (ci (x, y, z) b))).set (0 + b * 1) (.int .i64 (ci (x, y, z) a)) = tri (swp a b (x, y, z)) := by
  obtain rfl | rfl | rfl : a = 0 ∨ a = 1 ∨ a = 2 := by omega
  all_goals
    obtain rfl | rfl | rfl : b = 0 ∨ b = 1 ∨ b = 2 := by omega
    all_goals rfl
theorem swp_in {a b : Nat} {X Y Z : Int} {c : C} (ha : a < 3) (hb : b < 3) (h : In X Y Z c) : In (swp a b (X, Y, Z)).1 (swp a b (X, Y, Z)).2.1 (swp a b (X, Y, Z)).2.2 (swp a b c) := by
  obtain ⟨c1, c2, c3⟩ := c
  simp only [In] at h
  obtain rfl | rfl | rfl : a = 0 ∨ a = 1 ∨ a = 2 := by omega
  all_goals
    obtain rfl | rfl | rfl : b = 0 ∨ b = 1 ∨ b = 2 := by omega
    all_goals
      simp only [In, swp, swpI, ci]
      simp
      omega
theorem swp_box {a b : Nat} {X Y Z : Int} (ha : a < 3) (hb : b < 3) (h : Box X Y Z) : Box (swp a b (X, Y, Z)).1 (swp a b (X, Y, Z)).2.1 (swp a b (X, Y, Z)).2.2 := by
  obtain rfl | rfl | rfl : a = 0 ∨ a = 1 ∨ a = 2 := by omega
  all_goals
    obtain rfl | rfl | rfl : b = 0 ∨ b = 1 ∨ b = 2 := by omega
    all_goals
      simp only [swp, swpI, ci]
      simp
      omega
theorem maskN_map {Y Z : Int} {f : C → C} {cs : List C} {i : Nat} (h : i < cs.length) : maskN Y Z (cs.map f) i ||| 1#64 <<< cellIx Y Z (f (at3 cs i)) = maskN Y Z (cs.map f) (i + 1) := by
  rw [← maskN_succ (by simpa using h)]
  congr 3
  simp [at3, List.getD, h]
theorem within_dir {p : Nat} (h : p < 3) : within (p : Int) 0 2 = true := by simp [within]; omega

/-! ### One cell more -/
def withC (cs : List C) (c : C) : List C :=
  let k := (cs.takeWhile fun d => before d c).length
  if k < cs.length ∧ at3 cs k = c then cs else cs.take k ++ c :: cs.drop k
theorem withK {cs : List C} {c : C} : ∀ {k : Nat}, k ≤ cs.length → (∀ j, j < k → before (at3 cs j) c = true) → (k = cs.length ∨ before (at3 cs k) c = false) → (cs.takeWhile fun d => before d c).length = k := by
  induction cs with
  | nil => intro k hk _ _; simp at hk; simp [hk]
  | cons d cs ih =>
    intro k hk h1 h2
    rcases Nat.eq_zero_or_pos k with e | e
    · subst e
      rcases h2 with h2 | h2
      · simp at h2
      · have h3 : before d c = false := by simpa [at3, List.getD] using h2
        simp [List.takeWhile, h3]
    · have h0 := h1 0 e
      have h0' : before d c = true := by simpa [at3, List.getD] using h0
      obtain ⟨m, rfl⟩ : ∃ m, k = m + 1 := ⟨k - 1, by omega⟩
      have := ih (k := m) (by simpa using hk) (fun j hj => by have := h1 (j + 1) (by omega); simpa [at3, List.getD] using this)
        (by rcases h2 with h2 | h2
            · left; simpa using h2
            · right; simpa [at3, List.getD] using h2)
      rw [List.takeWhile_cons, h0']
      simp [this]
theorem withC_same {cs : List C} {c : C} {k : Nat} (hk : k < cs.length) (h1 : ∀ j, j < k → before (at3 cs j) c = true) (h2 : before (at3 cs k) c = false) (h3 : at3 cs k = c) : withC cs c = cs := by
  unfold withC
  rw [withK (by omega) h1 (.inr h2)]
  exact if_pos ⟨hk, h3⟩
theorem withC_new {cs : List C} {c : C} {k : Nat} (hk : k ≤ cs.length) (h1 : ∀ j, j < k → before (at3 cs j) c = true) (h2 : k = cs.length ∨ before (at3 cs k) c = false) (h3 : k = cs.length ∨ ¬ at3 cs k = c) : withC cs c = cs.take k ++ c :: cs.drop k := by
  unfold withC
  rw [withK hk h1 h2]
  refine if_neg fun h => ?_
  rcases h3 with e | e
  · omega
  · exact e h.2
theorem withC_len (cs : List C) (c : C) : (withC cs c).length ≤ cs.length + 1 := by
  unfold withC; simp only; split
  · omega
  · simp
    have := (List.takeWhile_prefix (fun d => before d c) (l := cs)).length_le
    omega
theorem before_irrefl (c : C) : before c c = false := by simp [before]

theorem mem_takeW {p : C → Bool} {a : C} : ∀ {l : List C}, a ∈ l.takeWhile p → p a = true
  | [], h => by simp at h
  | x :: l, h => by
    rw [List.takeWhile_cons] at h
    split at h
    · rename_i hx
      rcases List.mem_cons.mp h with e | h
      · subst e; exact hx
      · exact mem_takeW h
    · simp at h
theorem withC_valid {X Y Z : Int} {cs : List C} {c : C} (hv : Valid X Y Z cs) (hc : In X Y Z c) : Valid X Y Z (withC cs c) ∧ ∀ d, d ∈ withC cs c ↔ d ∈ cs ∨ d = c := by
  have hX := hv.box
  unfold withC
  generalize hk : (cs.takeWhile fun d => before d c).length = k
  have htake : cs.take k = cs.takeWhile fun d => before d c := by
    rw [← hk]
    exact (List.prefix_iff_eq_take.mp (List.takeWhile_prefix _)).symm
  have hkl : k ≤ cs.length := by rw [← hk]; exact (List.takeWhile_prefix _).length_le
  simp only
  by_cases hcond : k < cs.length ∧ at3 cs k = c
  · rw [if_pos hcond]
    refine ⟨hv, fun d => ⟨.inl, fun h => h.elim id fun e => ?_⟩⟩
    subst e; rw [← hcond.2]; exact at3_mem hcond.1
  rw [if_neg hcond]
  have hA : ∀ a ∈ cs.take k, a ∈ cs ∧ cellIx Y Z a < cellIx Y Z c := fun a ha => by
    have h1 : a ∈ cs := List.mem_of_mem_take ha
    rw [htake] at ha
    have h2 : before a c = true := by
      exact mem_takeW (p := fun d => before d c) ha
    exact ⟨h1, (before_ix hX (hv.inn a h1) hc).mp h2⟩
  have hB : ∀ b ∈ cs.drop k, b ∈ cs ∧ cellIx Y Z c < cellIx Y Z b := fun b hb => by
    have h1 : b ∈ cs := List.mem_of_mem_drop hb
    refine ⟨h1, ?_⟩
    obtain ⟨j, hj, rfl⟩ := List.getElem_of_mem hb
    have hkl2 : k < cs.length := by simp at hj; omega
    have hnb : before (at3 cs k) c = false := by
      have hd : cs.dropWhile (fun d => before d c) = cs.drop k := by
        have := List.takeWhile_append_dropWhile (p := fun d => before d c) (l := cs)
        conv at this => rhs; rw [← List.take_append_drop k cs, htake]
        exact List.append_cancel_left this
      have hne : cs.dropWhile (fun d => before d c) ≠ [] := by rw [hd]; intro e; have := congrArg List.length e; simp at this; omega
      have h3 := List.head_dropWhile_not (fun d => before d c) hne
      have h4 : (cs.dropWhile (fun d => before d c)).head hne = at3 cs k := by
        simp only [hd, List.head_drop]
        simp [at3, List.getD, hkl2]
      rw [h4] at h3; exact h3
    have hin := hv.inn _ (at3_mem hkl2)
    have h5 : ¬ cellIx Y Z (at3 cs k) < cellIx Y Z c := fun h => by rw [(before_ix hX hin hc).mpr h] at hnb; simp at hnb
    have h6 : cellIx Y Z (at3 cs k) ≠ cellIx Y Z c := fun h => hcond ⟨hkl2, ix_inj hX hin hc h⟩
    have h7 : cellIx Y Z (at3 cs k) ≤ cellIx Y Z ((cs.drop k)[j]) := by
      rcases Nat.eq_zero_or_pos j with e | e
      · subst e
        have : (cs.drop k)[0] = at3 cs k := by simp [at3, List.getD, hkl2]
        rw [this]; exact Nat.le_refl _
      · have := List.pairwise_iff_getElem.mp hv.rise k (k + j) (by simpa using hkl2) (by simp at hj ⊢; omega) (by omega)
        simp only [List.getElem_map] at this
        have e1 : cs[k] = at3 cs k := by simp [at3, List.getD, hkl2]
        rw [e1] at this
        rw [List.getElem_drop]
        exact Nat.le_of_lt this
    omega
  refine ⟨⟨hX, fun d hd => ?_, ?_⟩, fun d => ?_⟩
  · rcases List.mem_append.mp hd with h | h
    · exact hv.inn d (hA d h).1
    · rcases List.mem_cons.mp h with e | h
      · subst e; exact hc
      · exact hv.inn d (hB d h).1
  · rw [List.map_append, List.map_cons]
    refine List.pairwise_append.mpr ⟨?_, List.pairwise_cons.mpr ⟨fun y hy => ?_, ?_⟩, fun x hx y hy => ?_⟩
    · rw [List.map_take]; exact List.Pairwise.sublist (List.take_sublist _ _) hv.rise
    · obtain ⟨b, hb, rfl⟩ := List.mem_map.mp hy; exact (hB b hb).2
    · rw [List.map_drop]; exact List.Pairwise.sublist (List.drop_sublist _ _) hv.rise
    · obtain ⟨a, ha, rfl⟩ := List.mem_map.mp hx
      have h1 := (hA a ha).2
      rcases List.mem_cons.mp hy with e | hy
      · rw [e]; exact h1
      · obtain ⟨b, hb, rfl⟩ := List.mem_map.mp hy
        exact Nat.lt_trans h1 (hB b hb).2
  · rw [List.mem_append, List.mem_cons]
    conv => rhs; rw [← List.take_append_drop k cs, List.mem_append]
    constructor
    · rintro (h | h | h)
      · exact .inl (.inl h)
      · exact .inr h
      · exact .inl (.inr h)
    · rintro ((h | h) | h)
      · exact .inl h
      · exact .inr (.inr h)
      · exact .inr (.inl h)
/-- Some cells put in, one after the other. -/
def withN (f : C → C) (cs : List C) (i : Nat) : List C := (cs.take i).foldl (fun l c => withC l (f c)) []
theorem withN_zero (f : C → C) (cs : List C) : withN f cs 0 = [] := rfl
theorem withN_succ {f : C → C} {cs : List C} {i : Nat} (h : i < cs.length) : withC (withN f cs i) (f (at3 cs i)) = withN f cs (i + 1) := by
  unfold withN
  rw [take_succ3 h, List.foldl_append]; rfl
theorem withN_len (f : C → C) (cs : List C) : ∀ (i : Nat), i ≤ cs.length → (withN f cs i).length ≤ i
  | 0, _ => by simp [withN]
  | i + 1, h => by
    have h1 := withN_len f cs i (by omega)
    have h2 := withC_len (withN f cs i) (f (at3 cs i))
    rw [withN_succ (by omega)] at h2
    omega
theorem valid_nil {X Y Z : Int} (hX : Box X Y Z) : Valid X Y Z [] := ⟨hX, by simp, List.Pairwise.nil⟩
theorem withN_valid {X Y Z : Int} {f : C → C} {cs : List C} (hX : Box X Y Z) (hf : ∀ c ∈ cs, In X Y Z (f c)) : ∀ (i : Nat), i ≤ cs.length → Valid X Y Z (withN f cs i) ∧ ∀ d, d ∈ withN f cs i ↔ ∃ c ∈ cs.take i, f c = d
  | 0, _ => ⟨valid_nil hX, by simp [withN]⟩
  | i + 1, h => by
    obtain ⟨h1, h2⟩ := withN_valid hX hf i (by omega)
    obtain ⟨h3, h4⟩ := withC_valid h1 (hf _ (at3_mem (show i < cs.length by omega)))
    rw [withN_succ (by omega)] at h3 h4
    refine ⟨h3, fun d => ?_⟩
    rw [h4, h2, take_succ3 (by omega)]
    constructor
    · rintro (⟨c, hc, e⟩ | e)
      · exact ⟨c, List.mem_append_left _ hc, e⟩
      · exact ⟨at3 cs i, by simp, e.symm⟩
    · rintro ⟨c, hc, e⟩
      rcases List.mem_append.mp hc with g | g
      · exact .inl ⟨c, g, e⟩
      · simp at g; subst g; exact .inr e.symm
/-- The reference puts cells in one after the other; the program takes their bits: the same heap. -/
theorem withN_cells {X Y Z : Int} {f : C → C} {cs : List C} (hX : Box X Y Z) (hf : ∀ c ∈ cs, In X Y Z (f c)) : withN f cs cs.length = cellsOf X Y Z (mask Y Z (cs.map f)) := by
  obtain ⟨h1, h2⟩ := withN_valid hX hf cs.length (Nat.le_refl _)
  refine h1.ext (cells_valid _ hX) fun c hc => ?_
  rw [h2, cells_mem hX, mask_mem hX (by intro d hd; obtain ⟨e, he, rfl⟩ := List.mem_map.mp hd; exact hf e he) hc, List.take_length, List.mem_map]
  exact ⟨fun h => ⟨hc, h⟩, fun h => h.2⟩
theorem swap_tri {a b : Nat} (ha : a < 3) (hb : b < 3) (c : C) : ((tri c).set (0 + a * 1) (.int .i64 (ci c b))).set (0 + b * 1) (.int .i64 (ci c a)) = tri (swp a b c) := swap_list ha hb c.1 c.2.1 c.2.2
theorem cellsOf_len {X Y Z : Int} (s : BitVec 64) : (cellsOf X Y Z s).length ≤ vol X Y Z := by
  have := cellsTo_len Y Z s (vol X Y Z); rwa [cellsTo_all] at this

theorem all1_yes {zs : List Int} {p : Int → Bool} (h : ∀ j, j < zs.length → p (at1 zs j) = true) : zs.all p = true := by
  rw [List.all_eq_true]
  intro z hz
  obtain ⟨j, hj, rfl⟩ := List.getElem_of_mem hz
  have := h j hj
  simpa [at1, List.getD, hj] using this
theorem all1_no {zs : List Int} {p : Int → Bool} {i : Nat} (hi : i < zs.length) (h : p (at1 zs i) = false) : zs.all p = false := by
  rw [List.all_eq_false]
  refine ⟨at1 zs i, ?_, by rw [h]; simp⟩
  simp only [at1, List.getD, List.getElem?_eq_getElem hi, Option.getD_some]
  exact List.getElem_mem hi
/-! ### Cells moved -/
def addC (c d : C) : C := (c.1 + d.1, c.2.1 + d.2.1, c.2.2 + d.2.2)
def Small (c : C) : Prop := (-1000 ≤ c.1 ∧ c.1 ≤ 1000) ∧ (-1000 ≤ c.2.1 ∧ c.2.1 ≤ 1000) ∧ (-1000 ≤ c.2.2 ∧ c.2.2 ≤ 1000)
theorem before_add (a b d : C) : before (addC a d) (addC b d) = before a b := by
  obtain ⟨a1, a2, a3⟩ := a
  obtain ⟨b1, b2, b3⟩ := b
  obtain ⟨d1, d2, d3⟩ := d
  simp only [before, addC]
  have e1 : (a1 + d1 = b1 + d1) ↔ a1 = b1 := by omega
  have e2 : (a2 + d2 = b2 + d2) ↔ a2 = b2 := by omega
  have e3 : (a3 + d3 = b3 + d3) ↔ a3 = b3 := by omega
  have f1 : (a1 + d1 < b1 + d1) ↔ a1 < b1 := by omega
  have f2 : (a2 + d2 < b2 + d2) ↔ a2 < b2 := by omega
  have f3 : (a3 + d3 < b3 + d3) ↔ a3 < b3 := by omega
  simp only [ne_eq, e1, e2, e3, f1, f2, f3]
theorem In.small {X Y Z : Int} {c : C} (hX : Box X Y Z) (h : In X Y Z c) : Small c := by
  simp only [In, Small] at *; simp only [Box] at hX; omega
theorem valid_add {X Y Z : Int} {cs : List C} {d : C} (hv : Valid X Y Z cs) (hX : Box X Y Z) {X2 Y2 Z2 : Int} (hX2 : Box X2 Y2 Z2) (hd : ∀ c ∈ cs, In X2 Y2 Z2 (addC c d)) : Valid X2 Y2 Z2 (cs.map fun c => addC c d) := by
  refine ⟨hX2, fun c hc => by obtain ⟨e, he, rfl⟩ := List.mem_map.mp hc; exact hd e he, ?_⟩
  rw [List.map_map]
  refine List.pairwise_map.mpr ?_
  have h1 := List.pairwise_map.mp hv.rise
  refine List.Pairwise.imp_of_mem (fun {a b} ha hb hab => ?_) h1
  have h2 := (before_ix hX (hv.inn a ha) (hv.inn b hb)).mpr hab
  rw [← before_add a b d] at h2
  exact (before_ix hX2 (hd a ha) (hd b hb)).mp h2
theorem within_ci {d : C} (hd : (-4 ≤ d.1 ∧ d.1 ≤ 4) ∧ (-4 ≤ d.2.1 ∧ d.2.1 ≤ 4) ∧ (-4 ≤ d.2.2 ∧ d.2.2 ≤ 4)) {i : Nat} (hi : i < 3) : within (ci d i) (-4) 4 = true := by
  obtain rfl | rfl | rfl : i = 0 ∨ i = 1 ∨ i = 2 := by omega
  all_goals simp [within, ci]; omega
theorem within3 {d : C} (hd : (-4 ≤ d.1 ∧ d.1 ≤ 4) ∧ (-4 ≤ d.2.1 ∧ d.2.1 ≤ 4) ∧ (-4 ≤ d.2.2 ∧ d.2.2 ≤ 4)) : ([d.1, d.2.1, d.2.2].all fun z => within z (-4) 4) = true := by
  simp [within]; omega
def shiftOk (X Y Z : Int) (cs : List C) (d : C) : Bool := isHeap X Y Z cs && ([d.1, d.2.1, d.2.2].all fun z => within z (-4) 4) && cs.all fun c => inBox X Y Z (addC c d)
theorem shiftOk_yes {X Y Z : Int} {cs : List C} {d : C} (h1 : isHeap X Y Z cs = true) (h2 : ([d.1, d.2.1, d.2.2].all fun z => within z (-4) 4) = true) (h3 : ∀ j, j < cs.length → inBox X Y Z (addC (at3 cs j) d) = true) : shiftOk X Y Z cs d = true := by
  unfold shiftOk
  rw [h1, h2, Bool.true_and, Bool.true_and, List.all_eq_true]
  intro c hc
  obtain ⟨j, hj, rfl⟩ := mem_at3 hc
  exact h3 j hj
theorem within3_bd {d : C} (h : ([d.1, d.2.1, d.2.2].all fun z => within z (-4) 4) = true) : (-4 ≤ d.1 ∧ d.1 ≤ 4) ∧ (-4 ≤ d.2.1 ∧ d.2.1 ≤ 4) ∧ (-4 ≤ d.2.2 ∧ d.2.2 ≤ 4) := by
  simp [within] at h; omega
theorem within3_of {d : C} (h : ∀ j, j < 3 → within (ci d j) (-4) 4 = true) : ([d.1, d.2.1, d.2.2].all fun z => within z (-4) 4) = true := by
  have h0 := h 0 (by omega)
  have h1 := h 1 (by omega)
  have h2 := h 2 (by omega)
  simp [ci] at h0 h1 h2
  simp [h0, h1, h2]
theorem shift_kept {X Y Z : Int} {cs : List C} {d : C} (hno : shiftOk X Y Z cs d = false) (h1 : isHeap X Y Z cs = true) (h2 : ([d.1, d.2.1, d.2.2].all fun z => within z (-4) 4) = true) : isHeap X Y Z (cs.map fun c => addC c d) = false := by
  cases h : isHeap X Y Z (cs.map fun c => addC c d) with
  | false => rfl
  | true =>
    rw [shiftOk_yes h1 h2 fun j hj => ?_] at hno
    · simp at hno
    · have := isHeap_in h (j := j) (by simpa using hj)
      simpa [at3, List.getD, hj] using this

/-! ### The cells for which something is so -/
def thoseTo (Y Z : Int) (f : C → Bool) (i : Nat) : BitVec 64 := (List.range i).foldl (fun s j => if f (cellAt Y Z j) then s ||| 1#64 <<< j else s) 0#64
theorem those_zero (Y Z : Int) (f : C → Bool) : thoseTo Y Z f 0 = 0#64 := rfl
theorem those_T {Y Z : Int} {f : C → Bool} {i : Nat} (h : f (cellAt Y Z i) = true) : thoseTo Y Z f (i + 1) = thoseTo Y Z f i ||| 1#64 <<< i := by
  unfold thoseTo; rw [List.range_succ, List.foldl_append]; simp [h]
theorem those_F {Y Z : Int} {f : C → Bool} {i : Nat} (h : f (cellAt Y Z i) = false) : thoseTo Y Z f (i + 1) = thoseTo Y Z f i := by
  unfold thoseTo; rw [List.range_succ, List.foldl_append]; simp [h]
theorem those_get {Y Z : Int} {f : C → Bool} {j : Nat} (hj : j < 64) : ∀ i, (thoseTo Y Z f i).getLsbD j = (decide (j < i) && f (cellAt Y Z j))
  | 0 => by simp [those_zero]
  | i + 1 => by
    have ih := those_get (Y := Y) (Z := Z) (f := f) hj i
    cases h : f (cellAt Y Z i) with
    | true =>
      rw [those_T h, BitVec.getLsbD_or, ih, bit_get hj]
      by_cases e : j = i
      · subst e; simp [h]
      · have : (j < i + 1) ↔ j < i := by omega
        simp [e, this]
    | false =>
      rw [those_F h, ih]
      by_cases e : j = i
      · subst e; simp [h]
      · have : (j < i + 1) ↔ j < i := by omega
        simp [this]
def leC (e c : C) : Bool := decide (e.1 ≤ c.1) && decide (e.2.1 ≤ c.2.1) && decide (e.2.2 ≤ c.2.2)
def lstN (X Y Z : Int) (cs : List C) (i : Nat) : BitVec 64 := (cs.take i).foldl (fun s c => s ||| thoseTo Y Z (fun e => leC e c) (vol X Y Z)) 0#64
theorem lstN_succ {X Y Z : Int} {cs : List C} {i : Nat} (h : i < cs.length) : lstN X Y Z cs i ||| thoseTo Y Z (fun e => leC e (at3 cs i)) (vol X Y Z) = lstN X Y Z cs (i + 1) := by
  unfold lstN; rw [take_succ3 h, List.foldl_append]; rfl

/-! ### Downward closed -/
def lowC (c : C) (k : Nat) : C := if k = 0 then (c.1 - 1, c.2.1, c.2.2) else if k = 1 then (c.1, c.2.1 - 1, c.2.2) else (c.1, c.2.1, c.2.2 - 1)
theorem low_list {k : Nat} (hk : k < 3) (c : C) : (tri c).set (0 + k * 1) (.int .i64 (ci c k - 1)) = tri (lowC c k) := by
  obtain rfl | rfl | rfl : k = 0 ∨ k = 1 ∨ k = 2 := by omega
  all_goals rfl
theorem ci_low {k : Nat} (hk : k < 3) (c : C) : ci (lowC c k) k = ci c k - 1 := by
  obtain rfl | rfl | rfl : k = 0 ∨ k = 1 ∨ k = 2 := by omega
  all_goals rfl
theorem low_in {X Y Z : Int} {c : C} {k : Nat} (hk : k < 3) (hc : In X Y Z c) (h : 0 ≤ ci c k - 1) : In X Y Z (lowC c k) := by
  obtain rfl | rfl | rfl : k = 0 ∨ k = 1 ∨ k = 2 := by omega
  all_goals
    simp only [In, lowC, ci] at *
    simp at *
    omega
theorem low_le {c e : C} {k : Nat} (h : leC c e = true) : leC (lowC c k) e = true := by
  unfold lowC
  simp only [leC, Bool.and_eq_true, decide_eq_true_eq] at *
  split
  · simp only; omega
  · split
    · simp only; omega
    · simp only; omega
theorem leC_refl (c : C) : leC c c = true := by simp [leC]
/-- A set of cells that has all lower neighbours of its cells has all that lies below them. -/
theorem down_closed {X Y Z : Int} {L : List C} (hcl : ∀ c ∈ L, ∀ k, k < 3 → 0 ≤ ci c k - 1 → lowC c k ∈ L) : ∀ (m : Nat) (c e : C), c ∈ L → In X Y Z e → leC e c = true → (c.1 - e.1 + (c.2.1 - e.2.1) + (c.2.2 - e.2.2)).toNat = m → e ∈ L
  | 0, c, e, hc, he, hle, hm => by
    simp only [leC, Bool.and_eq_true, decide_eq_true_eq] at hle
    have : e = c := by
      obtain ⟨e1, e2, e3⟩ := e
      obtain ⟨c1, c2, c3⟩ := c
      simp only at hle hm
      simp only [Prod.mk.injEq]; omega
    rw [this]; exact hc
  | m + 1, c, e, hc, he, hle, hm => by
    simp only [leC, Bool.and_eq_true, decide_eq_true_eq] at hle
    simp only [In] at he
    have go : ∀ k, k < 3 → ci e k < ci c k → e ∈ L := fun k hk hlt => by
      have h0 : 0 ≤ ci c k - 1 := by
        have : 0 ≤ ci e k := by
          obtain rfl | rfl | rfl : k = 0 ∨ k = 1 ∨ k = 2 := by omega
          all_goals simp [ci]; omega
        omega
      refine down_closed hcl m (lowC c k) e (hcl c hc k hk h0) he ?_ ?_
      · obtain rfl | rfl | rfl : k = 0 ∨ k = 1 ∨ k = 2 := by omega
        all_goals
          simp only [leC, lowC, ci, Bool.and_eq_true, decide_eq_true_eq] at *
          simp at *
          omega
      · obtain rfl | rfl | rfl : k = 0 ∨ k = 1 ∨ k = 2 := by omega
        all_goals
          simp only [lowC, ci] at *
          simp at *
          omega
    by_cases h1 : e.1 < c.1
    · exact go 0 (by omega) (by simpa [ci] using h1)
    · by_cases h2 : e.2.1 < c.2.1
      · exact go 1 (by omega) (by simpa [ci] using h2)
      · exact go 2 (by omega) (by simp [ci]; omega)

theorem Rise.len_le : ∀ {a b : List Nat}, Rise a → Rise b → (∀ x ∈ a, x ∈ b) → a.length ≤ b.length
  | [], _, _, _, _ => by simp
  | x :: a, [], _, _, h => by have := h x (by simp); simp at this
  | x :: a, y :: b, ha, hb, h => by
    obtain ⟨h1, h2⟩ := List.pairwise_cons.mp ha
    obtain ⟨h3, h4⟩ := List.pairwise_cons.mp hb
    have hyx : y ≤ x := by
      rcases List.mem_cons.mp (h x (by simp)) with e | g
      · omega
      · have := h3 x g; omega
    have : a.length ≤ b.length := Rise.len_le h2 h4 fun z hz => by
      have hz1 := h1 z hz
      rcases List.mem_cons.mp (h z (List.mem_cons_of_mem _ hz)) with e | g
      · omega
      · exact g
    simp; omega
theorem Rise.eq_len : ∀ {a b : List Nat}, Rise a → Rise b → (∀ x ∈ a, x ∈ b) → b.length ≤ a.length → a = b
  | [], [], _, _, _, _ => rfl
  | [], _ :: _, _, _, _, hl => by simp at hl
  | x :: a, [], _, _, h, _ => by have := h x (by simp); simp at this
  | x :: a, y :: b, ha, hb, h, hl => by
    obtain ⟨h1, h2⟩ := List.pairwise_cons.mp ha
    obtain ⟨h3, h4⟩ := List.pairwise_cons.mp hb
    have sub : ∀ z ∈ a, z ∈ b := fun z hz => by
      have hz1 := h1 z hz
      have hyx : y ≤ x := by
        rcases List.mem_cons.mp (h x (by simp)) with e | g
        · omega
        · have := h3 x g; omega
      rcases List.mem_cons.mp (h z (List.mem_cons_of_mem _ hz)) with e | g
      · omega
      · exact g
    have hxy : x = y := by
      rcases List.mem_cons.mp (h x (by simp)) with e | g
      · exact e
      · have h5 := Rise.len_le ha h4 fun z hz => by
          rcases List.mem_cons.mp hz with e | hz
          · rw [e]; exact g
          · exact sub z hz
        simp at h5 hl; omega
    rw [hxy, Rise.eq_len h2 h4 sub (by simpa using hl)]
theorem Valid.eq_len {X Y Z : Int} {a b : List C} (ha : Valid X Y Z a) (hb : Valid X Y Z b) (h : ∀ c ∈ a, c ∈ b) (hl : b.length ≤ a.length) : a = b := by
  have e := Rise.eq_len ha.rise hb.rise (fun x hx => by obtain ⟨c, hc, rfl⟩ := List.mem_map.mp hx; exact List.mem_map.mpr ⟨c, h c hc, rfl⟩) (by simpa using hl)
  refine ha.ext hb fun c hc => ⟨h c, fun hcb => ?_⟩
  have : cellIx Y Z c ∈ a.map (cellIx Y Z) := by rw [e]; exact List.mem_map.mpr ⟨c, hcb, rfl⟩
  obtain ⟨d, hd, hde⟩ := List.mem_map.mp this
  rw [← ix_inj ha.box (ha.inn d hd) hc hde]; exact hd
theorem Valid.len_vol {X Y Z : Int} {a : List C} (ha : Valid X Y Z a) : a.length ≤ vol X Y Z := by
  have := Rise.len_le ha.rise (rise_range (vol X Y Z)) fun x hx => by
    obtain ⟨c, hc, rfl⟩ := List.mem_map.mp hx
    simpa using cellIx_lt ha.box (ha.inn c hc)
  simpa using this
theorem lst_get {X Y Z : Int} {cs : List C} {j : Nat} (hj : j < 64) : ∀ i, i ≤ cs.length → (lstN X Y Z cs i).getLsbD j = (decide (j < vol X Y Z) && (cs.take i).any fun c => leC (cellAt Y Z j) c)
  | 0, _ => by simp [lstN]
  | i + 1, h => by
    have ih := lst_get (X := X) (Y := Y) (Z := Z) (cs := cs) hj i (by omega)
    rw [← lstN_succ (by omega), BitVec.getLsbD_or, ih, those_get hj, take_succ3 (by omega), List.any_append]
    cases decide (j < vol X Y Z) <;> simp
theorem least_done {X Y Z : Int} {L cs : List C} (hv : Valid X Y Z L) (hcs : ∀ c ∈ cs, c ∈ L) (hd : ∀ e ∈ L, ∃ c ∈ cs, leC e c = true) (hcl : ∀ c ∈ L, ∀ k, k < 3 → 0 ≤ ci c k - 1 → lowC c k ∈ L) : cellsOf X Y Z (lstN X Y Z cs cs.length) = L := by
  have hX := hv.box
  refine (cells_valid _ hX).ext hv fun c hc => ?_
  rw [cells_mem hX, lst_get (cellIx_lt64 hX hc) _ (Nat.le_refl _), List.take_length, cellAt_ix hX hc]
  simp only [cellIx_lt hX hc, decide_true, Bool.true_and, List.any_eq_true]
  constructor
  · rintro ⟨_, e, he, hle⟩
    exact down_closed hcl _ e c (hcs e he) hc hle rfl
  · intro h
    obtain ⟨e, he, hle⟩ := hd c h
    exact ⟨hc, e, he, hle⟩
theorem Valid.len_sub {X Y Z : Int} {a b : List C} (ha : Valid X Y Z a) (hb : Valid X Y Z b) (h : ∀ c ∈ a, c ∈ b) : a.length ≤ b.length := by
  have := Rise.len_le ha.rise hb.rise fun x hx => by obtain ⟨c, hc, rfl⟩ := List.mem_map.mp hx; exact List.mem_map.mpr ⟨c, h c hc, rfl⟩
  simpa using this
theorem ci_bd {X Y Z : Int} {c : C} {k : Nat} (hX : Box X Y Z) (hk : k < 3) (hc : In X Y Z c) : 0 ≤ ci c k ∧ ci c k ≤ 3 := by
  obtain rfl | rfl | rfl : k = 0 ∨ k = 1 ∨ k = 2 := by omega
  all_goals
    simp only [In, Box, ci] at *
    simp
    omega
/-- Where the reference's loops stand that add all lower neighbours. -/
structure Low (X Y Z : Int) (cs L M : List C) (i k : Nat) : Prop where
  valid : Valid X Y Z M
  sub : ∀ e ∈ L, e ∈ M
  down : ∀ e ∈ M, ∃ c ∈ cs, leC e c = true
  prev : ∀ j, j < i → ∀ q, q < 3 → 0 ≤ ci (at3 L j) q - 1 → lowC (at3 L j) q ∈ M
  cur : ∀ q, q < k → 0 ≤ ci (at3 L i) q - 1 → lowC (at3 L i) q ∈ M
theorem Low.start {X Y Z : Int} {cs L : List C} (hv : Valid X Y Z L) (hd : ∀ e ∈ L, ∃ c ∈ cs, leC e c = true) : Low X Y Z cs L L 0 0 :=
  ⟨hv, fun _ h => h, hd, fun j hj => absurd hj (by omega), fun j hj => absurd hj (by omega)⟩
theorem Low.T {X Y Z : Int} {cs L M : List C} {i k : Nat} (h : Low X Y Z cs L M i k) (hL : Valid X Y Z L) (hi : i < L.length) (hk : k < 3) (hge : 0 ≤ ci (lowC (at3 L i) k) k) : Low X Y Z cs L (withC M (lowC (at3 L i) k)) i (k + 1) := by
  rw [ci_low hk] at hge
  obtain ⟨h1, h2⟩ := withC_valid h.valid (low_in hk (hL.inn _ (at3_mem hi)) hge)
  refine ⟨h1, fun e he => (h2 e).mpr (.inl (h.sub e he)), fun e he => ?_, fun j hj q hq hg => (h2 _).mpr (.inl (h.prev j hj q hq hg)), fun q hq hg => ?_⟩
  · rcases (h2 e).mp he with g | g
    · exact h.down e g
    · obtain ⟨c, hc, hle⟩ := h.down _ (h.sub _ (at3_mem hi))
      exact ⟨c, hc, by rw [g]; exact low_le hle⟩
  · rcases Nat.lt_or_ge q k with g | g
    · exact (h2 _).mpr (.inl (h.cur q g hg))
    · obtain rfl : q = k := by omega
      exact (h2 _).mpr (.inr rfl)
theorem Low.F {X Y Z : Int} {cs L M : List C} {i k : Nat} (h : Low X Y Z cs L M i k) (hk : k < 3) (hge : ¬ 0 ≤ ci (lowC (at3 L i) k) k) : Low X Y Z cs L M i (k + 1) := by
  rw [ci_low hk] at hge
  refine ⟨h.valid, h.sub, h.down, h.prev, fun q hq hg => ?_⟩
  rcases Nat.lt_or_ge q k with g | g
  · exact h.cur q g hg
  · obtain rfl : q = k := by omega
    exact absurd hg hge
theorem Low.next {X Y Z : Int} {cs L M : List C} {i k : Nat} (h : Low X Y Z cs L M i k) (hk : k = 3) : Low X Y Z cs L M (i + 1) 0 := by
  subst hk
  refine ⟨h.valid, h.sub, h.down, fun j hj q hq hg => ?_, fun q hq => absurd hq (by omega)⟩
  rcases Nat.lt_or_ge j i with g | g
  · exact h.prev j g q hq hg
  · obtain rfl : j = i := by omega
    exact h.cur q hq hg
theorem Low.done {X Y Z : Int} {cs L N : List C} {i k : Nat} (h : Low X Y Z cs L N i k) (hL : Valid X Y Z L) (hi : i = L.length) (hlen : N.length ≤ L.length) : ∀ c ∈ L, ∀ q, q < 3 → 0 ≤ ci c q - 1 → lowC c q ∈ L := by
  have e := hL.eq_len h.valid h.sub hlen
  intro c hc q hq hg
  obtain ⟨j, hj, rfl⟩ := mem_at3 hc
  have := h.prev j (by omega) q hq hg
  rw [← e] at this; exact this
end Go.Sep
