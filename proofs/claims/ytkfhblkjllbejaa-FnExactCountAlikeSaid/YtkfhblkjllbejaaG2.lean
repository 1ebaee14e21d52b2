/- Shared texts of the proofs: Sets, Rules, Sets2, Sets3, Rules3, Sets4, Sets5, Pop, Sets6, Sets7, Sets8, Reach, Ext, Parts, Pieces, Pieces2, Climb, Orders, Clear, Alike, Tabs. -/
import Derived.Test.YtkfhblkjllbejaaG1
/- Heaps as sets of cells' numbers. -/
namespace Go.Sep
open Go
set_option linter.unusedVariables false
set_option linter.unusedSimpArgs false

/-! ### The number of a cell -/
def cellIx (Y Z : Int) (c : C) : Nat := ((c.1 * Y + c.2.1) * Z + c.2.2).toNat
def vol (X Y Z : Int) : Nat := (X * Y * Z).toNat
def cellAt (Y Z : Int) (i : Nat) : C := ((((i : Int) / Z) / Y), (((i : Int) / Z) % Y), ((i : Int) % Z))
abbrev Box (X Y Z : Int) : Prop := (1 ≤ X ∧ X ≤ 4) ∧ (1 ≤ Y ∧ Y ≤ 4) ∧ (1 ≤ Z ∧ Z ≤ 4)
abbrev In (X Y Z : Int) (c : C) : Prop := (0 ≤ c.1 ∧ c.1 < X) ∧ (0 ≤ c.2.1 ∧ c.2.1 < Y) ∧ (0 ≤ c.2.2 ∧ c.2.2 < Z)

theorem ix3 {X Y Z : Int} {c : C} (hX : Box X Y Z) (hc : In X Y Z c) : 0 ≤ (c.1 * Y + c.2.1) * Z + c.2.2 ∧ (c.1 * Y + c.2.1) * Z + c.2.2 < X * Y * Z := by
  have h1 := ix2 hc.1 hc.2.1 hX.2.1
  obtain ⟨_, _, hZ⟩ := hX
  obtain ⟨_, _, hc2⟩ := hc
  generalize c.1 * Y + c.2.1 = a at h1
  generalize X * Y = b at h1
  obtain rfl | rfl | rfl | rfl : Z = 1 ∨ Z = 2 ∨ Z = 3 ∨ Z = 4 := by omega
  all_goals omega
theorem cellIx_cast {X Y Z : Int} {c : C} (hX : Box X Y Z) (hc : In X Y Z c) : (c.1 * Y + c.2.1) * Z + c.2.2 = (cellIx Y Z c : Int) := by
  have := ix3 hX hc; unfold cellIx; omega
theorem cellIx_lt {X Y Z : Int} {c : C} (hX : Box X Y Z) (hc : In X Y Z c) : cellIx Y Z c < vol X Y Z := by
  have := ix3 hX hc; unfold cellIx vol; omega
theorem vol_le {X Y Z : Int} (hX : Box X Y Z) : 1 ≤ vol X Y Z ∧ vol X Y Z ≤ 64 := by
  have h := mulXY hX.1 hX.2.1
  unfold vol
  generalize X * Y = b at h
  obtain ⟨_, _, hZ⟩ := hX
  obtain rfl | rfl | rfl | rfl : Z = 1 ∨ Z = 2 ∨ Z = 3 ∨ Z = 4 := by omega
  all_goals omega
theorem vol_cast {X Y Z : Int} (hX : Box X Y Z) : X * Y * Z = (vol X Y Z : Int) := by
  have h := mulXY hX.1 hX.2.1
  unfold vol
  generalize X * Y = b at h
  obtain ⟨_, _, hZ⟩ := hX
  obtain rfl | rfl | rfl | rfl : Z = 1 ∨ Z = 2 ∨ Z = 3 ∨ Z = 4 := by omega
  all_goals omega
theorem cellIx_lt64 {X Y Z : Int} {c : C} (hX : Box X Y Z) (hc : In X Y Z c) : cellIx Y Z c < 64 := by
  have h1 := cellIx_lt hX hc; have h2 := vol_le hX; omega
/-- Cells in order: their numbers rise. -/
theorem before_ix {X Y Z : Int} {a b : C} (hX : Box X Y Z) (ha : In X Y Z a) (hb : In X Y Z b) : before a b = true ↔ cellIx Y Z a < cellIx Y Z b := by
  have e1 := cellIx_cast hX ha
  have e2 := cellIx_cast hX hb
  obtain ⟨a1, a2, a3⟩ := a
  obtain ⟨b1, b2, b3⟩ := b
  obtain ⟨_, hY, hZ⟩ := hX
  simp only [In] at ha hb
  simp only at e1 e2
  have key : before (a1, a2, a3) (b1, b2, b3) = true ↔ (a1 * Y + a2) * Z + a3 < (b1 * Y + b2) * Z + b3 := by
    obtain rfl | rfl | rfl | rfl : Y = 1 ∨ Y = 2 ∨ Y = 3 ∨ Y = 4 := by omega
    all_goals
      obtain rfl | rfl | rfl | rfl : Z = 1 ∨ Z = 2 ∨ Z = 3 ∨ Z = 4 := by omega
      all_goals
        by_cases h1 : a1 = b1
        · by_cases h2 : a2 = b2
          · by_cases h3 : a3 = b3
            · simp [before, h1, h2, h3]
            · simp [before, h1, h2, h3]
          · simp [before, h1, h2]; omega
        · simp [before, h1]; omega
  rw [key, e1, e2]
  omega
theorem ix_inj {X Y Z : Int} {a b : C} (hX : Box X Y Z) (ha : In X Y Z a) (hb : In X Y Z b) (h : cellIx Y Z a = cellIx Y Z b) : a = b := by
  have e1 := cellIx_cast hX ha
  have e2 := cellIx_cast hX hb
  rw [h, ← e2] at e1
  obtain ⟨a1, a2, a3⟩ := a
  obtain ⟨b1, b2, b3⟩ := b
  obtain ⟨_, hY, hZ⟩ := hX
  simp only [In] at ha hb
  simp only at e1
  obtain rfl | rfl | rfl | rfl : Y = 1 ∨ Y = 2 ∨ Y = 3 ∨ Y = 4 := by omega
  all_goals
    obtain rfl | rfl | rfl | rfl : Z = 1 ∨ Z = 2 ∨ Z = 3 ∨ Z = 4 := by omega
    all_goals
      simp only [Prod.mk.injEq]
      omega
theorem cellAt_in {X Y Z : Int} (hX : Box X Y Z) {i : Nat} (hi : i < vol X Y Z) : In X Y Z (cellAt Y Z i) := by
  have hv := vol_cast hX
  obtain ⟨hX', hY, hZ⟩ := hX
  unfold cellAt
  simp only [In]
  obtain rfl | rfl | rfl | rfl : Y = 1 ∨ Y = 2 ∨ Y = 3 ∨ Y = 4 := by omega
  all_goals
    obtain rfl | rfl | rfl | rfl : Z = 1 ∨ Z = 2 ∨ Z = 3 ∨ Z = 4 := by omega
    all_goals omega
theorem ix_cellAt {X Y Z : Int} (hX : Box X Y Z) {i : Nat} (hi : i < vol X Y Z) : cellIx Y Z (cellAt Y Z i) = i := by
  have h := cellIx_cast hX (cellAt_in hX hi)
  obtain ⟨hX', hY, hZ⟩ := hX
  unfold cellAt at h ⊢
  simp only at h ⊢
  obtain rfl | rfl | rfl | rfl : Y = 1 ∨ Y = 2 ∨ Y = 3 ∨ Y = 4 := by omega
  all_goals
    obtain rfl | rfl | rfl | rfl : Z = 1 ∨ Z = 2 ∨ Z = 3 ∨ Z = 4 := by omega
    all_goals omega
theorem cellAt_ix {X Y Z : Int} {c : C} (hX : Box X Y Z) (hc : In X Y Z c) : cellAt Y Z (cellIx Y Z c) = c :=
  ix_inj hX (cellAt_in hX (cellIx_lt hX hc)) hc (ix_cellAt hX (cellIx_lt hX hc))

theorem mulZ_bd {a Z : Int} (ha : 0 ≤ a ∧ a ≤ 16) (hZ : 1 ≤ Z ∧ Z ≤ 4) : 0 ≤ a * Z ∧ a * Z ≤ 64 := by
  obtain rfl | rfl | rfl | rfl : Z = 1 ∨ Z = 2 ∨ Z = 3 ∨ Z = 4 := by omega
  all_goals omega
theorem tdiv_ediv {i k : Int} (h : 0 ≤ i) : i.tdiv k = i / k := Int.tdiv_eq_ediv_of_nonneg h
theorem tmod_emod {i k : Int} (h : 0 ≤ i) : i.tmod k = i % k := Int.tmod_eq_emod_of_nonneg h
theorem quo_bd {i k : Int} (hi : 0 ≤ i ∧ i ≤ 64) (hk : 1 ≤ k ∧ k ≤ 4) : (0 ≤ i.tdiv k ∧ i.tdiv k ≤ 64) ∧ (0 ≤ i.tmod k ∧ i.tmod k ≤ 3) ∧ 0 ≤ i.tdiv k := by
  rw [tdiv_ediv hi.1, tmod_emod hi.1]
  obtain rfl | rfl | rfl | rfl : k = 1 ∨ k = 2 ∨ k = 3 ∨ k = 4 := by omega
  all_goals omega

theorem cellAt_t {Y Z : Int} {i : Nat} (hY : 1 ≤ Y) (hZ : 1 ≤ Z) : cellAt Y Z i = (((i : Int).tdiv Z).tdiv Y, ((i : Int).tdiv Z).tmod Y, (i : Int).tmod Z) := by
  have h0 : 0 ≤ (i : Int) := by omega
  have h1 : 0 ≤ (i : Int) / Z := Int.ediv_nonneg h0 (by omega)
  rw [tdiv_ediv h0, tdiv_ediv h1, tmod_emod h1, tmod_emod h0]; rfl
/-! ### Bits -/
theorem has_bit {s : BitVec 64} {i : Nat} (hi : i < 64) : decide ((s >>> i) &&& 1#64 = 1#64) = s.getLsbD i := by
  have h : ((s >>> i) &&& 1#64 = 1#64) ↔ s.getLsbD i = true := by
    constructor
    · intro h
      have := congrArg (fun x : BitVec 64 => x.getLsbD 0) h
      simpa using this
    · intro h
      apply BitVec.eq_of_getLsbD_eq
      intro j hj
      rw [BitVec.getLsbD_and, BitVec.getLsbD_one]
      rcases Nat.eq_zero_or_pos j with e | e
      · subst e; simp [h]
      · have : j ≠ 0 := by omega
        simp [this]
  by_cases g : s.getLsbD i = true
  · rw [g]; exact decide_eq_true (h.mpr g)
  · rw [Bool.not_eq_true] at g
    rw [g]; exact decide_eq_false (fun e => by rw [h.mp e] at g; simp at g)
theorem bit_get {k j : Nat} (hj : j < 64) : ((1#64 : BitVec 64) <<< k).getLsbD j = decide (j = k) := by
  rw [BitVec.getLsbD_shiftLeft]
  by_cases h : j = k
  · subst h; simp [hj]
  · simp only [h, decide_false, hj, decide_true, Bool.true_and]
    by_cases h2 : j < k
    · simp [h2]
    · have : j - k ≠ 0 := by omega
      simp [h2, BitVec.getLsbD_one, this]
/-- The set of some cells. -/
def maskN (Y Z : Int) (cs : List C) (i : Nat) : BitVec 64 := (cs.take i).foldl (fun s c => s ||| 1#64 <<< cellIx Y Z c) 0#64
def mask (Y Z : Int) (cs : List C) : BitVec 64 := maskN Y Z cs cs.length
theorem maskN_zero (Y Z : Int) (cs : List C) : maskN Y Z cs 0 = 0#64 := rfl
theorem maskN_succ {Y Z : Int} {cs : List C} {i : Nat} (h : i < cs.length) : maskN Y Z cs i ||| 1#64 <<< cellIx Y Z (at3 cs i) = maskN Y Z cs (i + 1) := by
  unfold maskN
  rw [take_succ3 h, List.foldl_append]; rfl
theorem foldl_or_get {Y Z : Int} {j : Nat} (hj : j < 64) : ∀ (l : List C) (s : BitVec 64), (l.foldl (fun s c => s ||| 1#64 <<< cellIx Y Z c) s).getLsbD j = (s.getLsbD j || l.any fun c => decide (cellIx Y Z c = j))
  | [], s => by simp
  | c :: l, s => by
    rw [List.foldl_cons, foldl_or_get hj l, BitVec.getLsbD_or, bit_get hj, List.any_cons, Bool.or_assoc]
    congr 2
    rw [decide_eq_decide]; exact eq_comm
theorem mask_get {Y Z : Int} {cs : List C} {j : Nat} (hj : j < 64) : (mask Y Z cs).getLsbD j = cs.any fun c => decide (cellIx Y Z c = j) := by
  unfold mask maskN
  rw [List.take_length, foldl_or_get hj]; simp

/-! ### Rising lists -/
def Rise : List Nat → Prop := List.Pairwise (· < ·)
theorem Rise.ext : ∀ {a b : List Nat}, Rise a → Rise b → (∀ x, x ∈ a ↔ x ∈ b) → a = b
  | [], [], _, _, _ => rfl
  | [], y :: b, _, _, h => by have := (h y).mpr (by simp); simp at this
  | x :: a, [], _, _, h => by have := (h x).mp (by simp); simp at this
  | x :: a, y :: b, ha, hb, h => by
    obtain ⟨h1, h2⟩ := List.pairwise_cons.mp ha
    obtain ⟨h3, h4⟩ := List.pairwise_cons.mp hb
    have hxy : x = y := by
      have hx := (h x).mp (by simp)
      have hy := (h y).mpr (by simp)
      rcases List.mem_cons.mp hx with e | hx
      · exact e
      · rcases List.mem_cons.mp hy with e | hy
        · exact e.symm
        · have := h3 x hx; have := h1 y hy; omega
    subst hxy
    congr 1
    refine Rise.ext h2 h4 fun z => ⟨fun hz => ?_, fun hz => ?_⟩
    · rcases List.mem_cons.mp ((h z).mp (List.mem_cons_of_mem _ hz)) with e | g
      · subst e; exact absurd (h1 z hz) (Nat.lt_irrefl _)
      · exact g
    · rcases List.mem_cons.mp ((h z).mpr (List.mem_cons_of_mem _ hz)) with e | g
      · subst e; exact absurd (h3 z hz) (Nat.lt_irrefl _)
      · exact g
theorem rise_range (n : Nat) : Rise (List.range n) := List.pairwise_lt_range
theorem Rise.filter {l : List Nat} (h : Rise l) (p : Nat → Bool) : Rise (l.filter p) := List.Pairwise.filter p h

theorem inBox_of {X Y Z : Int} {c : C} (h : In X Y Z c) : inBox X Y Z c = true := by
  simp only [In] at h
  simp [inBox, within]; omega

/-! ### Heaps -/
/-- A valid heap, as the laws need it. -/
structure Valid (X Y Z : Int) (cs : List C) : Prop where
  box : Box X Y Z
  inn : ∀ c ∈ cs, In X Y Z c
  rise : Rise (cs.map (cellIx Y Z))
theorem at3_mem {cs : List C} {j : Nat} (h : j < cs.length) : at3 cs j ∈ cs := by
  simp only [at3, List.getD, List.getElem?_eq_getElem h, Option.getD_some]
  exact List.getElem_mem h
theorem mem_at3 {cs : List C} {c : C} (h : c ∈ cs) : ∃ j, j < cs.length ∧ at3 cs j = c := by
  obtain ⟨j, hj, rfl⟩ := List.getElem_of_mem h
  exact ⟨j, hj, by simp [at3, List.getD, hj]⟩
theorem isHeap_inn {X Y Z : Int} {cs : List C} (h : isHeap X Y Z cs = true) : ∀ c ∈ cs, In X Y Z c := fun c hc => by
  obtain ⟨j, hj, rfl⟩ := mem_at3 hc
  exact inBox_bd (isHeap_in h hj)
theorem isHeap_before {X Y Z : Int} {cs : List C} (h : isHeap X Y Z cs = true) {j : Nat} (hj : j + 1 < cs.length) : before (at3 cs j) (at3 cs (j + 1)) = true := by
  have := isHeap_at h hj
  simp only [okAt, Bool.and_eq_true, Bool.or_eq_true, decide_eq_true_eq, Nat.add_sub_cancel] at this
  rcases this.2 with e | e
  · omega
  · exact e
theorem rise_of_step : ∀ (l : List Nat), (∀ j, j + 1 < l.length → l.getD j 0 < l.getD (j + 1) 0) → Rise l
  | [], _ => List.Pairwise.nil
  | [x], _ => by simp [Rise]
  | x :: y :: l, h => by
    have ih := rise_of_step (y :: l) fun j hj => by
      have := h (j + 1) (by simpa using hj)
      simpa using this
    refine List.pairwise_cons.mpr ⟨fun z hz => ?_, ih⟩
    have h0 := h 0 (by simp)
    simp at h0
    rcases List.mem_cons.mp hz with e | hz
    · omega
    · have := (List.pairwise_cons.mp ih).1 z hz; omega
theorem valid_of {X Y Z : Int} {cs : List C} (h : isHeap X Y Z cs = true) : Valid X Y Z cs := by
  have hb := sides_bd (isHeap_sides h)
  have hi := isHeap_inn h
  refine ⟨hb, hi, rise_of_step _ fun j hj => ?_⟩
  rw [List.length_map] at hj
  have h1 := isHeap_before h hj
  rw [before_ix hb (hi _ (at3_mem (by omega))) (hi _ (at3_mem hj))] at h1
  simpa [at3, List.getD, List.getElem?_map, show j < cs.length by omega, hj] using h1
theorem Valid.isHeap {X Y Z : Int} {cs : List C} (h : Valid X Y Z cs) : isHeap X Y Z cs = true := by
  have hb := h.box
  refine isHeap_yes (by simp [sides, within]; omega) fun j hj => ?_
  have hc := h.inn _ (at3_mem hj)
  have hin := inBox_of hc
  rcases Nat.eq_zero_or_pos j with e | e
  · exact okAt_yes1 hin e
  · refine okAt_yes3 hin ?_
    rw [before_ix hb (h.inn _ (at3_mem (by omega))) hc]
    have := List.pairwise_iff_getElem.mp h.rise (j - 1) j (by simp; omega) (by simpa using hj) (by omega)
    simpa [at3, List.getD, show j - 1 < cs.length by omega, hj] using this

/-- The cells of a set. -/
def idsOf (X Y Z : Int) (s : BitVec 64) : List Nat := (List.range (vol X Y Z)).filter fun i => s.getLsbD i
def cellsOf (X Y Z : Int) (s : BitVec 64) : List C := (idsOf X Y Z s).map (cellAt Y Z)
theorem ids_mem {X Y Z : Int} {s : BitVec 64} {i : Nat} : i ∈ idsOf X Y Z s ↔ i < vol X Y Z ∧ s.getLsbD i = true := by simp [idsOf]
theorem ids_rise (X Y Z : Int) (s : BitVec 64) : Rise (idsOf X Y Z s) := (rise_range _).filter _
theorem map_ix_cells {X Y Z : Int} {s : BitVec 64} (hX : Box X Y Z) : (cellsOf X Y Z s).map (cellIx Y Z) = idsOf X Y Z s := by
  unfold cellsOf
  rw [List.map_map]
  conv => rhs; rw [← List.map_id (idsOf X Y Z s)]
  refine List.map_congr_left fun i hi => ?_
  exact ix_cellAt hX (ids_mem.mp hi).1
theorem cells_mem {X Y Z : Int} {s : BitVec 64} {c : C} (hX : Box X Y Z) : c ∈ cellsOf X Y Z s ↔ In X Y Z c ∧ s.getLsbD (cellIx Y Z c) = true := by
  unfold cellsOf
  rw [List.mem_map]
  constructor
  · rintro ⟨i, hi, rfl⟩
    obtain ⟨h1, h2⟩ := ids_mem.mp hi
    exact ⟨cellAt_in hX h1, by rw [ix_cellAt hX h1]; exact h2⟩
  · rintro ⟨h1, h2⟩
    exact ⟨cellIx Y Z c, ids_mem.mpr ⟨cellIx_lt hX h1, h2⟩, cellAt_ix hX h1⟩
theorem cells_valid {X Y Z : Int} (s : BitVec 64) (hX : Box X Y Z) : Valid X Y Z (cellsOf X Y Z s) :=
  ⟨hX, fun c hc => ((cells_mem hX).mp hc).1, by rw [map_ix_cells hX]; exact ids_rise _ _ _ _⟩
/-- A valid heap's cells are known by what they are. -/
theorem Valid.ext {X Y Z : Int} {a b : List C} (ha : Valid X Y Z a) (hb : Valid X Y Z b) (h : ∀ c, In X Y Z c → (c ∈ a ↔ c ∈ b)) : a = b := by
  have key : a.map (cellIx Y Z) = b.map (cellIx Y Z) := by
    refine Rise.ext ha.rise hb.rise fun x => ?_
    simp only [List.mem_map]
    constructor
    · rintro ⟨c, hc, rfl⟩; exact ⟨c, (h c (ha.inn c hc)).mp hc, rfl⟩
    · rintro ⟨c, hc, rfl⟩; exact ⟨c, (h c (hb.inn c hc)).mpr hc, rfl⟩
  have back : ∀ (l : List C), (∀ c ∈ l, In X Y Z c) → (l.map (cellIx Y Z)).map (cellAt Y Z) = l := fun l hl => by
    rw [List.map_map]
    conv => rhs; rw [← List.map_id l]
    exact List.map_congr_left fun c hc => cellAt_ix ha.box (hl c hc)
  rw [← back a ha.inn, ← back b hb.inn, key]
theorem mask_mem {X Y Z : Int} {cs : List C} {c : C} (hX : Box X Y Z) (hi : ∀ c ∈ cs, In X Y Z c) (hc : In X Y Z c) : (mask Y Z cs).getLsbD (cellIx Y Z c) = true ↔ c ∈ cs := by
  rw [mask_get (cellIx_lt64 hX hc), List.any_eq_true]
  constructor
  · rintro ⟨d, hd, e⟩
    rw [← ix_inj hX (hi d hd) hc (by simpa using e)]; exact hd
  · intro h; exact ⟨c, h, by simp⟩
theorem cells_mask {X Y Z : Int} {cs : List C} (h : Valid X Y Z cs) : cellsOf X Y Z (mask Y Z cs) = cs :=
  (cells_valid _ h.box).ext h fun c hc => by rw [cells_mem h.box, mask_mem h.box h.inn hc]; exact ⟨fun x => x.2, fun x => ⟨hc, x⟩⟩

/-! ### The cells of a set, one after the other -/
def cellsTo (Y Z : Int) (s : BitVec 64) (i : Nat) : List C := ((List.range i).filter fun j => s.getLsbD j).map (cellAt Y Z)
theorem cellsTo_zero (Y Z : Int) (s : BitVec 64) : cellsTo Y Z s 0 = [] := rfl
theorem cellsTo_T {Y Z : Int} {s : BitVec 64} {i : Nat} (h : s.getLsbD i = true) : cellsTo Y Z s (i + 1) = cellsTo Y Z s i ++ [cellAt Y Z i] := by
  simp [cellsTo, List.range_succ, List.filter_append, h]
theorem cellsTo_F {Y Z : Int} {s : BitVec 64} {i : Nat} (h : s.getLsbD i = false) : cellsTo Y Z s (i + 1) = cellsTo Y Z s i := by
  simp [cellsTo, List.range_succ, List.filter_append, h]
theorem cellsTo_all (X Y Z : Int) (s : BitVec 64) : cellsTo Y Z s (vol X Y Z) = cellsOf X Y Z s := rfl
theorem cellsTo_len (Y Z : Int) (s : BitVec 64) (i : Nat) : (cellsTo Y Z s i).length ≤ i := by
  unfold cellsTo
  rw [List.length_map]
  exact Nat.le_trans (List.length_filter_le _ _) (by simp)
theorem flat_snoc (cs : List C) (c : C) : flat cs ++ [Value.int .i64 c.1, Value.int .i64 c.2.1, Value.int .i64 c.2.2] = flat (cs ++ [c]) := by
  rw [flat_append]; rfl

/-! ### Two numbers of a cell exchanged -/
def swpI (a b k : Nat) : Nat := if k = b then a else if k = a then b else k
def swp (a b : Nat) (c : C) : C := (ci c (swpI a b 0), ci c (swpI a b 1), ci c (swpI a b 2))
theorem swap_list {a b : Nat} (ha : a < 3) (hb : b < 3) (x y z : Int) :
    ([Value.int .i64 x, Value.int .i64 y, Value.int .i64 z].set (0 + a * 1) (.int .i64 (ci (x, y, z) b))).set (0 + b * 1) (.int .i64 (ci (x, y, z) a)) = tri (swp a b (x, y, z)) := by
  obtain rfl | rfl | rfl : a = 0 ∨ a = 1 ∨ a = 2 := by omega
  all_goals
    obtain rfl | rfl | rfl : b = 0 ∨ b = 1 ∨ b = 2 := by omega
    all_goals rfl
theorem swp_in {a b : Nat} {X Y Z : Int} {c : C} (ha : a < 3) (hb : b < 3) (h : In X Y Z c) : In (swp a b (X, Y, Z)).1 (swp a b (X, Y, Z)).2.1 (swp a b (X, Y, Z)).2.2 (swp a b c) := by
  obtain ⟨c1, c2, c3⟩ := c
  simp only [In] at h
  obtain rfl | rfl | rfl : a = 0 ∨ a = 1 ∨ a = 2 := by omega
  all_goals
    obtain rfl | rfl | rfl : b = 0 ∨ b = 1 ∨ b = 2 := by omega
    all_goals
      simp only [In, swp, swpI, ci]
      simp
      omega
theorem swp_box {a b : Nat} {X Y Z : Int} (ha : a < 3) (hb : b < 3) (h : Box X Y Z) : Box (swp a b (X, Y, Z)).1 (swp a b (X, Y, Z)).2.1 (swp a b (X, Y, Z)).2.2 := by
  obtain rfl | rfl | rfl : a = 0 ∨ a = 1 ∨ a = 2 := by omega
  all_goals
    obtain rfl | rfl | rfl : b = 0 ∨ b = 1 ∨ b = 2 := by omega
    all_goals
      simp only [swp, swpI, ci]
      simp
      omega
theorem maskN_map {Y Z : Int} {f : C → C} {cs : List C} {i : Nat} (h : i < cs.length) : maskN Y Z (cs.map f) i ||| 1#64 <<< cellIx Y Z (f (at3 cs i)) = maskN Y Z (cs.map f) (i + 1) := by
  rw [← maskN_succ (by simpa using h)]
  congr 3
  simp [at3, List.getD, h]
theorem within_dir {p : Nat} (h : p < 3) : within (p : Int) 0 2 = true := by simp [within]; omega

/-! ### One cell more -/
def withC (cs : List C) (c : C) : List C :=
  let k := (cs.takeWhile fun d => before d c).length
  if k < cs.length ∧ at3 cs k = c then cs else cs.take k ++ c :: cs.drop k
theorem withK {cs : List C} {c : C} : ∀ {k : Nat}, k ≤ cs.length → (∀ j, j < k → before (at3 cs j) c = true) → (k = cs.length ∨ before (at3 cs k) c = false) → (cs.takeWhile fun d => before d c).length = k := by
  induction cs with
  | nil => intro k hk _ _; simp at hk; simp [hk]
  | cons d cs ih =>
    intro k hk h1 h2
    rcases Nat.eq_zero_or_pos k with e | e
    · subst e
      rcases h2 with h2 | h2
      · simp at h2
      · have h3 : before d c = false := by simpa [at3, List.getD] using h2
        simp [List.takeWhile, h3]
    · have h0 := h1 0 e
      have h0' : before d c = true := by simpa [at3, List.getD] using h0
      obtain ⟨m, rfl⟩ : ∃ m, k = m + 1 := ⟨k - 1, by omega⟩
      have := ih (k := m) (by simpa using hk) (fun j hj => by have := h1 (j + 1) (by omega); simpa [at3, List.getD] using this)
        (by rcases h2 with h2 | h2
            · left; simpa using h2
            · right; simpa [at3, List.getD] using h2)
      rw [List.takeWhile_cons, h0']
      simp [this]
theorem withC_same {cs : List C} {c : C} {k : Nat} (hk : k < cs.length) (h1 : ∀ j, j < k → before (at3 cs j) c = true) (h2 : before (at3 cs k) c = false) (h3 : at3 cs k = c) : withC cs c = cs := by
  unfold withC
  rw [withK (by omega) h1 (.inr h2)]
  exact if_pos ⟨hk, h3⟩
theorem withC_new {cs : List C} {c : C} {k : Nat} (hk : k ≤ cs.length) (h1 : ∀ j, j < k → before (at3 cs j) c = true) (h2 : k = cs.length ∨ before (at3 cs k) c = false) (h3 : k = cs.length ∨ ¬ at3 cs k = c) : withC cs c = cs.take k ++ c :: cs.drop k := by
  unfold withC
  rw [withK hk h1 h2]
  refine if_neg fun h => ?_
  rcases h3 with e | e
  · omega
  · exact e h.2
theorem withC_len (cs : List C) (c : C) : (withC cs c).length ≤ cs.length + 1 := by
  unfold withC; simp only; split
  · omega
  · simp
    have := (List.takeWhile_prefix (fun d => before d c) (l := cs)).length_le
    omega
theorem before_irrefl (c : C) : before c c = false := by simp [before]

theorem mem_takeW {p : C → Bool} {a : C} : ∀ {l : List C}, a ∈ l.takeWhile p → p a = true
  | [], h => by simp at h
  | x :: l, h => by
    rw [List.takeWhile_cons] at h
    split at h
    · rename_i hx
      rcases List.mem_cons.mp h with e | h
      · subst e; exact hx
      · exact mem_takeW h
    · simp at h
theorem withC_valid {X Y Z : Int} {cs : List C} {c : C} (hv : Valid X Y Z cs) (hc : In X Y Z c) : Valid X Y Z (withC cs c) ∧ ∀ d, d ∈ withC cs c ↔ d ∈ cs ∨ d = c := by
  have hX := hv.box
  unfold withC
  generalize hk : (cs.takeWhile fun d => before d c).length = k
  have htake : cs.take k = cs.takeWhile fun d => before d c := by
    rw [← hk]
    exact (List.prefix_iff_eq_take.mp (List.takeWhile_prefix _)).symm
  have hkl : k ≤ cs.length := by rw [← hk]; exact (List.takeWhile_prefix _).length_le
  simp only
  by_cases hcond : k < cs.length ∧ at3 cs k = c
  · rw [if_pos hcond]
    refine ⟨hv, fun d => ⟨.inl, fun h => h.elim id fun e => ?_⟩⟩
    subst e; rw [← hcond.2]; exact at3_mem hcond.1
  rw [if_neg hcond]
  have hA : ∀ a ∈ cs.take k, a ∈ cs ∧ cellIx Y Z a < cellIx Y Z c := fun a ha => by
    have h1 : a ∈ cs := List.mem_of_mem_take ha
    rw [htake] at ha
    have h2 : before a c = true := by
      exact mem_takeW (p := fun d => before d c) ha
    exact ⟨h1, (before_ix hX (hv.inn a h1) hc).mp h2⟩
  have hB : ∀ b ∈ cs.drop k, b ∈ cs ∧ cellIx Y Z c < cellIx Y Z b := fun b hb => by
    have h1 : b ∈ cs := List.mem_of_mem_drop hb
    refine ⟨h1, ?_⟩
    obtain ⟨j, hj, rfl⟩ := List.getElem_of_mem hb
    have hkl2 : k < cs.length := by simp at hj; omega
    have hnb : before (at3 cs k) c = false := by
      have hd : cs.dropWhile (fun d => before d c) = cs.drop k := by
        have := List.takeWhile_append_dropWhile (p := fun d => before d c) (l := cs)
        conv at this => rhs; rw [← List.take_append_drop k cs, htake]
        exact List.append_cancel_left this
      have hne : cs.dropWhile (fun d => before d c) ≠ [] := by rw [hd]; intro e; have := congrArg List.length e; simp at this; omega
      have h3 := List.head_dropWhile_not (fun d => before d c) hne
      have h4 : (cs.dropWhile (fun d => before d c)).head hne = at3 cs k := by
        simp only [hd, List.head_drop]
        simp [at3, List.getD, hkl2]
      rw [h4] at h3; exact h3
    have hin := hv.inn _ (at3_mem hkl2)
    have h5 : ¬ cellIx Y Z (at3 cs k) < cellIx Y Z c := fun h => by rw [(before_ix hX hin hc).mpr h] at hnb; simp at hnb
    have h6 : cellIx Y Z (at3 cs k) ≠ cellIx Y Z c := fun h => hcond ⟨hkl2, ix_inj hX hin hc h⟩
    have h7 : cellIx Y Z (at3 cs k) ≤ cellIx Y Z ((cs.drop k)[j]) := by
      rcases Nat.eq_zero_or_pos j with e | e
      · subst e
        have : (cs.drop k)[0] = at3 cs k := by simp [at3, List.getD, hkl2]
        rw [this]; exact Nat.le_refl _
      · have := List.pairwise_iff_getElem.mp hv.rise k (k + j) (by simpa using hkl2) (by simp at hj ⊢; omega) (by omega)
        simp only [List.getElem_map] at this
        have e1 : cs[k] = at3 cs k := by simp [at3, List.getD, hkl2]
        rw [e1] at this
        rw [List.getElem_drop]
        exact Nat.le_of_lt this
    omega
  refine ⟨⟨hX, fun d hd => ?_, ?_⟩, fun d => ?_⟩
  · rcases List.mem_append.mp hd with h | h
    · exact hv.inn d (hA d h).1
    · rcases List.mem_cons.mp h with e | h
      · subst e; exact hc
      · exact hv.inn d (hB d h).1
  · rw [List.map_append, List.map_cons]
    refine List.pairwise_append.mpr ⟨?_, List.pairwise_cons.mpr ⟨fun y hy => ?_, ?_⟩, fun x hx y hy => ?_⟩
    · rw [List.map_take]; exact List.Pairwise.sublist (List.take_sublist _ _) hv.rise
    · obtain ⟨b, hb, rfl⟩ := List.mem_map.mp hy; exact (hB b hb).2
    · rw [List.map_drop]; exact List.Pairwise.sublist (List.drop_sublist _ _) hv.rise
    · obtain ⟨a, ha, rfl⟩ := List.mem_map.mp hx
      have h1 := (hA a ha).2
      rcases List.mem_cons.mp hy with e | hy
      · rw [e]; exact h1
      · obtain ⟨b, hb, rfl⟩ := List.mem_map.mp hy
        exact Nat.lt_trans h1 (hB b hb).2
  · rw [List.mem_append, List.mem_cons]
    conv => rhs; rw [← List.take_append_drop k cs, List.mem_append]
    constructor
    · rintro (h | h | h)
      · exact .inl (.inl h)
      · exact .inr h
      · exact .inl (.inr h)
    · rintro ((h | h) | h)
      · exact .inl h
      · exact .inr (.inr h)
      · exact .inr (.inl h)
/-- Some cells put in, one after the other. -/
def withN (f : C → C) (cs : List C) (i : Nat) : List C := (cs.take i).foldl (fun l c => withC l (f c)) []
theorem withN_zero (f : C → C) (cs : List C) : withN f cs 0 = [] := rfl
theorem withN_succ {f : C → C} {cs : List C} {i : Nat} (h : i < cs.length) : withC (withN f cs i) (f (at3 cs i)) = withN f cs (i + 1) := by
  unfold withN
  rw [take_succ3 h, List.foldl_append]; rfl
theorem withN_len (f : C → C) (cs : List C) : ∀ (i : Nat), i ≤ cs.length → (withN f cs i).length ≤ i
  | 0, _ => by simp [withN]
  | i + 1, h => by
    have h1 := withN_len f cs i (by omega)
    have h2 := withC_len (withN f cs i) (f (at3 cs i))
    rw [withN_succ (by omega)] at h2
    omega
theorem valid_nil {X Y Z : Int} (hX : Box X Y Z) : Valid X Y Z [] := ⟨hX, by simp, List.Pairwise.nil⟩
theorem withN_valid {X Y Z : Int} {f : C → C} {cs : List C} (hX : Box X Y Z) (hf : ∀ c ∈ cs, In X Y Z (f c)) : ∀ (i : Nat), i ≤ cs.length → Valid X Y Z (withN f cs i) ∧ ∀ d, d ∈ withN f cs i ↔ ∃ c ∈ cs.take i, f c = d
  | 0, _ => ⟨valid_nil hX, by simp [withN]⟩
  | i + 1, h => by
    obtain ⟨h1, h2⟩ := withN_valid hX hf i (by omega)
    obtain ⟨h3, h4⟩ := withC_valid h1 (hf _ (at3_mem (show i < cs.length by omega)))
    rw [withN_succ (by omega)] at h3 h4
    refine ⟨h3, fun d => ?_⟩
    rw [h4, h2, take_succ3 (by omega)]
    constructor
    · rintro (⟨c, hc, e⟩ | e)
      · exact ⟨c, List.mem_append_left _ hc, e⟩
      · exact ⟨at3 cs i, by simp, e.symm⟩
    · rintro ⟨c, hc, e⟩
      rcases List.mem_append.mp hc with g | g
      · exact .inl ⟨c, g, e⟩
      · simp at g; subst g; exact .inr e.symm
/-- The reference puts cells in one after the other; the program takes their bits: the same heap. -/
theorem withN_cells {X Y Z : Int} {f : C → C} {cs : List C} (hX : Box X Y Z) (hf : ∀ c ∈ cs, In X Y Z (f c)) : withN f cs cs.length = cellsOf X Y Z (mask Y Z (cs.map f)) := by
  obtain ⟨h1, h2⟩ := withN_valid hX hf cs.length (Nat.le_refl _)
  refine h1.ext (cells_valid _ hX) fun c hc => ?_
  rw [h2, cells_mem hX, mask_mem hX (by intro d hd; obtain ⟨e, he, rfl⟩ := List.mem_map.mp hd; exact hf e he) hc, List.take_length, List.mem_map]
  exact ⟨fun h => ⟨hc, h⟩, fun h => h.2⟩
theorem swap_tri {a b : Nat} (ha : a < 3) (hb : b < 3) (c : C) : ((tri c).set (0 + a * 1) (.int .i64 (ci c b))).set (0 + b * 1) (.int .i64 (ci c a)) = tri (swp a b c) := swap_list ha hb c.1 c.2.1 c.2.2
theorem cellsOf_len {X Y Z : Int} (s : BitVec 64) : (cellsOf X Y Z s).length ≤ vol X Y Z := by
  have := cellsTo_len Y Z s (vol X Y Z); rwa [cellsTo_all] at this

theorem all1_yes {zs : List Int} {p : Int → Bool} (h : ∀ j, j < zs.length → p (at1 zs j) = true) : zs.all p = true := by
  rw [List.all_eq_true]
  intro z hz
  obtain ⟨j, hj, rfl⟩ := List.getElem_of_mem hz
  have := h j hj
  simpa [at1, List.getD, hj] using this
theorem all1_no {zs : List Int} {p : Int → Bool} {i : Nat} (hi : i < zs.length) (h : p (at1 zs i) = false) : zs.all p = false := by
  rw [List.all_eq_false]
  refine ⟨at1 zs i, ?_, by rw [h]; simp⟩
  simp only [at1, List.getD, List.getElem?_eq_getElem hi, Option.getD_some]
  exact List.getElem_mem hi
/-! ### Cells moved -/
def addC (c d : C) : C := (c.1 + d.1, c.2.1 + d.2.1, c.2.2 + d.2.2)
def Small (c : C) : Prop := (-1000 ≤ c.1 ∧ c.1 ≤ 1000) ∧ (-1000 ≤ c.2.1 ∧ c.2.1 ≤ 1000) ∧ (-1000 ≤ c.2.2 ∧ c.2.2 ≤ 1000)
theorem before_add (a b d : C) : before (addC a d) (addC b d) = before a b := by
  obtain ⟨a1, a2, a3⟩ := a
  obtain ⟨b1, b2, b3⟩ := b
  obtain ⟨d1, d2, d3⟩ := d
  simp only [before, addC]
  have e1 : (a1 + d1 = b1 + d1) ↔ a1 = b1 := by omega
  have e2 : (a2 + d2 = b2 + d2) ↔ a2 = b2 := by omega
  have e3 : (a3 + d3 = b3 + d3) ↔ a3 = b3 := by omega
  have f1 : (a1 + d1 < b1 + d1) ↔ a1 < b1 := by omega
  have f2 : (a2 + d2 < b2 + d2) ↔ a2 < b2 := by omega
  have f3 : (a3 + d3 < b3 + d3) ↔ a3 < b3 := by omega
  simp only [ne_eq, e1, e2, e3, f1, f2, f3]
theorem In.small {X Y Z : Int} {c : C} (hX : Box X Y Z) (h : In X Y Z c) : Small c := by
  simp only [In, Small] at *; simp only [Box] at hX; omega
theorem valid_add {X Y Z : Int} {cs : List C} {d : C} (hv : Valid X Y Z cs) (hX : Box X Y Z) {X2 Y2 Z2 : Int} (hX2 : Box X2 Y2 Z2) (hd : ∀ c ∈ cs, In X2 Y2 Z2 (addC c d)) : Valid X2 Y2 Z2 (cs.map fun c => addC c d) := by
  refine ⟨hX2, fun c hc => by obtain ⟨e, he, rfl⟩ := List.mem_map.mp hc; exact hd e he, ?_⟩
  rw [List.map_map]
  refine List.pairwise_map.mpr ?_
  have h1 := List.pairwise_map.mp hv.rise
  refine List.Pairwise.imp_of_mem (fun {a b} ha hb hab => ?_) h1
  have h2 := (before_ix hX (hv.inn a ha) (hv.inn b hb)).mpr hab
  rw [← before_add a b d] at h2
  exact (before_ix hX2 (hd a ha) (hd b hb)).mp h2
theorem within_ci {d : C} (hd : (-4 ≤ d.1 ∧ d.1 ≤ 4) ∧ (-4 ≤ d.2.1 ∧ d.2.1 ≤ 4) ∧ (-4 ≤ d.2.2 ∧ d.2.2 ≤ 4)) {i : Nat} (hi : i < 3) : within (ci d i) (-4) 4 = true := by
  obtain rfl | rfl | rfl : i = 0 ∨ i = 1 ∨ i = 2 := by omega
  all_goals simp [within, ci]; omega
theorem within3 {d : C} (hd : (-4 ≤ d.1 ∧ d.1 ≤ 4) ∧ (-4 ≤ d.2.1 ∧ d.2.1 ≤ 4) ∧ (-4 ≤ d.2.2 ∧ d.2.2 ≤ 4)) : ([d.1, d.2.1, d.2.2].all fun z => within z (-4) 4) = true := by
  simp [within]; omega
def shiftOk (X Y Z : Int) (cs : List C) (d : C) : Bool := isHeap X Y Z cs && ([d.1, d.2.1, d.2.2].all fun z => within z (-4) 4) && cs.all fun c => inBox X Y Z (addC c d)
theorem shiftOk_yes {X Y Z : Int} {cs : List C} {d : C} (h1 : isHeap X Y Z cs = true) (h2 : ([d.1, d.2.1, d.2.2].all fun z => within z (-4) 4) = true) (h3 : ∀ j, j < cs.length → inBox X Y Z (addC (at3 cs j) d) = true) : shiftOk X Y Z cs d = true := by
  unfold shiftOk
  rw [h1, h2, Bool.true_and, Bool.true_and, List.all_eq_true]
  intro c hc
  obtain ⟨j, hj, rfl⟩ := mem_at3 hc
  exact h3 j hj
theorem within3_bd {d : C} (h : ([d.1, d.2.1, d.2.2].all fun z => within z (-4) 4) = true) : (-4 ≤ d.1 ∧ d.1 ≤ 4) ∧ (-4 ≤ d.2.1 ∧ d.2.1 ≤ 4) ∧ (-4 ≤ d.2.2 ∧ d.2.2 ≤ 4) := by
  simp [within] at h; omega
theorem within3_of {d : C} (h : ∀ j, j < 3 → within (ci d j) (-4) 4 = true) : ([d.1, d.2.1, d.2.2].all fun z => within z (-4) 4) = true := by
  have h0 := h 0 (by omega)
  have h1 := h 1 (by omega)
  have h2 := h 2 (by omega)
  simp [ci] at h0 h1 h2
  simp [h0, h1, h2]
theorem shift_kept {X Y Z : Int} {cs : List C} {d : C} (hno : shiftOk X Y Z cs d = false) (h1 : isHeap X Y Z cs = true) (h2 : ([d.1, d.2.1, d.2.2].all fun z => within z (-4) 4) = true) : isHeap X Y Z (cs.map fun c => addC c d) = false := by
  cases h : isHeap X Y Z (cs.map fun c => addC c d) with
  | false => rfl
  | true =>
    rw [shiftOk_yes h1 h2 fun j hj => ?_] at hno
    · simp at hno
    · have := isHeap_in h (j := j) (by simpa using hj)
      simpa [at3, List.getD, hj] using this

/-! ### The cells for which something is so -/
def thoseTo (Y Z : Int) (f : C → Bool) (i : Nat) : BitVec 64 := (List.range i).foldl (fun s j => if f (cellAt Y Z j) then s ||| 1#64 <<< j else s) 0#64
theorem those_zero (Y Z : Int) (f : C → Bool) : thoseTo Y Z f 0 = 0#64 := rfl
theorem those_T {Y Z : Int} {f : C → Bool} {i : Nat} (h : f (cellAt Y Z i) = true) : thoseTo Y Z f (i + 1) = thoseTo Y Z f i ||| 1#64 <<< i := by
  unfold thoseTo; rw [List.range_succ, List.foldl_append]; simp [h]
theorem those_F {Y Z : Int} {f : C → Bool} {i : Nat} (h : f (cellAt Y Z i) = false) : thoseTo Y Z f (i + 1) = thoseTo Y Z f i := by
  unfold thoseTo; rw [List.range_succ, List.foldl_append]; simp [h]
theorem those_get {Y Z : Int} {f : C → Bool} {j : Nat} (hj : j < 64) : ∀ i, (thoseTo Y Z f i).getLsbD j = (decide (j < i) && f (cellAt Y Z j))
  | 0 => by simp [those_zero]
  | i + 1 => by
    have ih := those_get (Y := Y) (Z := Z) (f := f) hj i
    cases h : f (cellAt Y Z i) with
    | true =>
      rw [those_T h, BitVec.getLsbD_or, ih, bit_get hj]
      by_cases e : j = i
      · subst e; simp [h]
      · have : (j < i + 1) ↔ j < i := by omega
        simp [e, this]
    | false =>
      rw [those_F h, ih]
      by_cases e : j = i
      · subst e; simp [h]
      · have : (j < i + 1) ↔ j < i := by omega
        simp [this]
def leC (e c : C) : Bool := decide (e.1 ≤ c.1) && decide (e.2.1 ≤ c.2.1) && decide (e.2.2 ≤ c.2.2)
def lstN (X Y Z : Int) (cs : List C) (i : Nat) : BitVec 64 := (cs.take i).foldl (fun s c => s ||| thoseTo Y Z (fun e => leC e c) (vol X Y Z)) 0#64
theorem lstN_succ {X Y Z : Int} {cs : List C} {i : Nat} (h : i < cs.length) : lstN X Y Z cs i ||| thoseTo Y Z (fun e => leC e (at3 cs i)) (vol X Y Z) = lstN X Y Z cs (i + 1) := by
  unfold lstN; rw [take_succ3 h, List.foldl_append]; rfl

/-! ### Downward closed -/
def lowC (c : C) (k : Nat) : C := if k = 0 then (c.1 - 1, c.2.1, c.2.2) else if k = 1 then (c.1, c.2.1 - 1, c.2.2) else (c.1, c.2.1, c.2.2 - 1)
theorem low_list {k : Nat} (hk : k < 3) (c : C) : (tri c).set (0 + k * 1) (.int .i64 (ci c k - 1)) = tri (lowC c k) := by
  obtain rfl | rfl | rfl : k = 0 ∨ k = 1 ∨ k = 2 := by omega
  all_goals rfl
theorem ci_low {k : Nat} (hk : k < 3) (c : C) : ci (lowC c k) k = ci c k - 1 := by
  obtain rfl | rfl | rfl : k = 0 ∨ k = 1 ∨ k = 2 := by omega
  all_goals rfl
theorem low_in {X Y Z : Int} {c : C} {k : Nat} (hk : k < 3) (hc : In X Y Z c) (h : 0 ≤ ci c k - 1) : In X Y Z (lowC c k) := by
  obtain rfl | rfl | rfl : k = 0 ∨ k = 1 ∨ k = 2 := by omega
  all_goals
    simp only [In, lowC, ci] at *
    simp at *
    omega
theorem low_le {c e : C} {k : Nat} (h : leC c e = true) : leC (lowC c k) e = true := by
  unfold lowC
  simp only [leC, Bool.and_eq_true, decide_eq_true_eq] at *
  split
  · simp only; omega
  · split
    · simp only; omega
    · simp only; omega
theorem leC_refl (c : C) : leC c c = true := by simp [leC]
/-- A set of cells that has all lower neighbours of its cells has all that lies below them. -/
theorem down_closed {X Y Z : Int} {L : List C} (hcl : ∀ c ∈ L, ∀ k, k < 3 → 0 ≤ ci c k - 1 → lowC c k ∈ L) : ∀ (m : Nat) (c e : C), c ∈ L → In X Y Z e → leC e c = true → (c.1 - e.1 + (c.2.1 - e.2.1) + (c.2.2 - e.2.2)).toNat = m → e ∈ L
  | 0, c, e, hc, he, hle, hm => by
    simp only [leC, Bool.and_eq_true, decide_eq_true_eq] at hle
    have : e = c := by
      obtain ⟨e1, e2, e3⟩ := e
      obtain ⟨c1, c2, c3⟩ := c
      simp only at hle hm
      simp only [Prod.mk.injEq]; omega
    rw [this]; exact hc
  | m + 1, c, e, hc, he, hle, hm => by
    simp only [leC, Bool.and_eq_true, decide_eq_true_eq] at hle
    simp only [In] at he
    have go : ∀ k, k < 3 → ci e k < ci c k → e ∈ L := fun k hk hlt => by
      have h0 : 0 ≤ ci c k - 1 := by
        have : 0 ≤ ci e k := by
          obtain rfl | rfl | rfl : k = 0 ∨ k = 1 ∨ k = 2 := by omega
          all_goals simp [ci]; omega
        omega
      refine down_closed hcl m (lowC c k) e (hcl c hc k hk h0) he ?_ ?_
      · obtain rfl | rfl | rfl : k = 0 ∨ k = 1 ∨ k = 2 := by omega
        all_goals
          simp only [leC, lowC, ci, Bool.and_eq_true, decide_eq_true_eq] at *
          simp at *
          omega
      · obtain rfl | rfl | rfl : k = 0 ∨ k = 1 ∨ k = 2 := by omega
        all_goals
          simp only [lowC, ci] at *
          simp at *
          omega
    by_cases h1 : e.1 < c.1
    · exact go 0 (by omega) (by simpa [ci] using h1)
    · by_cases h2 : e.2.1 < c.2.1
      · exact go 1 (by omega) (by simpa [ci] using h2)
      · exact go 2 (by omega) (by simp [ci]; omega)

theorem Rise.len_le : ∀ {a b : List Nat}, Rise a → Rise b → (∀ x ∈ a, x ∈ b) → a.length ≤ b.length
  | [], _, _, _, _ => by simp
  | x :: a, [], _, _, h => by have := h x (by simp); simp at this
  | x :: a, y :: b, ha, hb, h => by
    obtain ⟨h1, h2⟩ := List.pairwise_cons.mp ha
    obtain ⟨h3, h4⟩ := List.pairwise_cons.mp hb
    have hyx : y ≤ x := by
      rcases List.mem_cons.mp (h x (by simp)) with e | g
      · omega
      · have := h3 x g; omega
    have : a.length ≤ b.length := Rise.len_le h2 h4 fun z hz => by
      have hz1 := h1 z hz
      rcases List.mem_cons.mp (h z (List.mem_cons_of_mem _ hz)) with e | g
      · omega
      · exact g
    simp; omega
theorem Rise.eq_len : ∀ {a b : List Nat}, Rise a → Rise b → (∀ x ∈ a, x ∈ b) → b.length ≤ a.length → a = b
  | [], [], _, _, _, _ => rfl
  | [], _ :: _, _, _, _, hl => by simp at hl
  | x :: a, [], _, _, h, _ => by have := h x (by simp); simp at this
  | x :: a, y :: b, ha, hb, h, hl => by
    obtain ⟨h1, h2⟩ := List.pairwise_cons.mp ha
    obtain ⟨h3, h4⟩ := List.pairwise_cons.mp hb
    have sub : ∀ z ∈ a, z ∈ b := fun z hz => by
      have hz1 := h1 z hz
      have hyx : y ≤ x := by
        rcases List.mem_cons.mp (h x (by simp)) with e | g
        · omega
        · have := h3 x g; omega
      rcases List.mem_cons.mp (h z (List.mem_cons_of_mem _ hz)) with e | g
      · omega
      · exact g
    have hxy : x = y := by
      rcases List.mem_cons.mp (h x (by simp)) with e | g
      · exact e
      · have h5 := Rise.len_le ha h4 fun z hz => by
          rcases List.mem_cons.mp hz with e | hz
          · rw [e]; exact g
          · exact sub z hz
        simp at h5 hl; omega
    rw [hxy, Rise.eq_len h2 h4 sub (by simpa using hl)]
theorem Valid.eq_len {X Y Z : Int} {a b : List C} (ha : Valid X Y Z a) (hb : Valid X Y Z b) (h : ∀ c ∈ a, c ∈ b) (hl : b.length ≤ a.length) : a = b := by
  have e := Rise.eq_len ha.rise hb.rise (fun x hx => by obtain ⟨c, hc, rfl⟩ := List.mem_map.mp hx; exact List.mem_map.mpr ⟨c, h c hc, rfl⟩) (by simpa using hl)
  refine ha.ext hb fun c hc => ⟨h c, fun hcb => ?_⟩
  have : cellIx Y Z c ∈ a.map (cellIx Y Z) := by rw [e]; exact List.mem_map.mpr ⟨c, hcb, rfl⟩
  obtain ⟨d, hd, hde⟩ := List.mem_map.mp this
  rw [← ix_inj ha.box (ha.inn d hd) hc hde]; exact hd
theorem Valid.len_vol {X Y Z : Int} {a : List C} (ha : Valid X Y Z a) : a.length ≤ vol X Y Z := by
  have := Rise.len_le ha.rise (rise_range (vol X Y Z)) fun x hx => by
    obtain ⟨c, hc, rfl⟩ := List.mem_map.mp hx
    simpa using cellIx_lt ha.box (ha.inn c hc)
  simpa using this
theorem lst_get {X Y Z : Int} {cs : List C} {j : Nat} (hj : j < 64) : ∀ i, i ≤ cs.length → (lstN X Y Z cs i).getLsbD j = (decide (j < vol X Y Z) && (cs.take i).any fun c => leC (cellAt Y Z j) c)
  | 0, _ => by simp [lstN]
  | i + 1, h => by
    have ih := lst_get (X := X) (Y := Y) (Z := Z) (cs := cs) hj i (by omega)
    rw [← lstN_succ (by omega), BitVec.getLsbD_or, ih, those_get hj, take_succ3 (by omega), List.any_append]
    cases decide (j < vol X Y Z) <;> simp
theorem least_done {X Y Z : Int} {L cs : List C} (hv : Valid X Y Z L) (hcs : ∀ c ∈ cs, c ∈ L) (hd : ∀ e ∈ L, ∃ c ∈ cs, leC e c = true) (hcl : ∀ c ∈ L, ∀ k, k < 3 → 0 ≤ ci c k - 1 → lowC c k ∈ L) : cellsOf X Y Z (lstN X Y Z cs cs.length) = L := by
  have hX := hv.box
  refine (cells_valid _ hX).ext hv fun c hc => ?_
  rw [cells_mem hX, lst_get (cellIx_lt64 hX hc) _ (Nat.le_refl _), List.take_length, cellAt_ix hX hc]
  simp only [cellIx_lt hX hc, decide_true, Bool.true_and, List.any_eq_true]
  constructor
  · rintro ⟨_, e, he, hle⟩
    exact down_closed hcl _ e c (hcs e he) hc hle rfl
  · intro h
    obtain ⟨e, he, hle⟩ := hd c h
    exact ⟨hc, e, he, hle⟩
theorem Valid.len_sub {X Y Z : Int} {a b : List C} (ha : Valid X Y Z a) (hb : Valid X Y Z b) (h : ∀ c ∈ a, c ∈ b) : a.length ≤ b.length := by
  have := Rise.len_le ha.rise hb.rise fun x hx => by obtain ⟨c, hc, rfl⟩ := List.mem_map.mp hx; exact List.mem_map.mpr ⟨c, h c hc, rfl⟩
  simpa using this
theorem ci_bd {X Y Z : Int} {c : C} {k : Nat} (hX : Box X Y Z) (hk : k < 3) (hc : In X Y Z c) : 0 ≤ ci c k ∧ ci c k ≤ 3 := by
  obtain rfl | rfl | rfl : k = 0 ∨ k = 1 ∨ k = 2 := by omega
  all_goals
    simp only [In, Box, ci] at *
    simp
    omega
/-- Where the reference's loops stand that add all lower neighbours. -/
structure Low (X Y Z : Int) (cs L M : List C) (i k : Nat) : Prop where
  valid : Valid X Y Z M
  sub : ∀ e ∈ L, e ∈ M
  down : ∀ e ∈ M, ∃ c ∈ cs, leC e c = true
  prev : ∀ j, j < i → ∀ q, q < 3 → 0 ≤ ci (at3 L j) q - 1 → lowC (at3 L j) q ∈ M
  cur : ∀ q, q < k → 0 ≤ ci (at3 L i) q - 1 → lowC (at3 L i) q ∈ M
theorem Low.start {X Y Z : Int} {cs L : List C} (hv : Valid X Y Z L) (hd : ∀ e ∈ L, ∃ c ∈ cs, leC e c = true) : Low X Y Z cs L L 0 0 :=
  ⟨hv, fun _ h => h, hd, fun j hj => absurd hj (by omega), fun j hj => absurd hj (by omega)⟩
theorem Low.T {X Y Z : Int} {cs L M : List C} {i k : Nat} (h : Low X Y Z cs L M i k) (hL : Valid X Y Z L) (hi : i < L.length) (hk : k < 3) (hge : 0 ≤ ci (lowC (at3 L i) k) k) : Low X Y Z cs L (withC M (lowC (at3 L i) k)) i (k + 1) := by
  rw [ci_low hk] at hge
  obtain ⟨h1, h2⟩ := withC_valid h.valid (low_in hk (hL.inn _ (at3_mem hi)) hge)
  refine ⟨h1, fun e he => (h2 e).mpr (.inl (h.sub e he)), fun e he => ?_, fun j hj q hq hg => (h2 _).mpr (.inl (h.prev j hj q hq hg)), fun q hq hg => ?_⟩
  · rcases (h2 e).mp he with g | g
    · exact h.down e g
    · obtain ⟨c, hc, hle⟩ := h.down _ (h.sub _ (at3_mem hi))
      exact ⟨c, hc, by rw [g]; exact low_le hle⟩
  · rcases Nat.lt_or_ge q k with g | g
    · exact (h2 _).mpr (.inl (h.cur q g hg))
    · obtain rfl : q = k := by omega
      exact (h2 _).mpr (.inr rfl)
theorem Low.F {X Y Z : Int} {cs L M : List C} {i k : Nat} (h : Low X Y Z cs L M i k) (hk : k < 3) (hge : ¬ 0 ≤ ci (lowC (at3 L i) k) k) : Low X Y Z cs L M i (k + 1) := by
  rw [ci_low hk] at hge
  refine ⟨h.valid, h.sub, h.down, h.prev, fun q hq hg => ?_⟩
  rcases Nat.lt_or_ge q k with g | g
  · exact h.cur q g hg
  · obtain rfl : q = k := by omega
    exact absurd hg hge
theorem Low.next {X Y Z : Int} {cs L M : List C} {i k : Nat} (h : Low X Y Z cs L M i k) (hk : k = 3) : Low X Y Z cs L M (i + 1) 0 := by
  subst hk
  refine ⟨h.valid, h.sub, h.down, fun j hj q hq hg => ?_, fun q hq => absurd hq (by omega)⟩
  rcases Nat.lt_or_ge j i with g | g
  · exact h.prev j g q hq hg
  · obtain rfl : j = i := by omega
    exact h.cur q hq hg
theorem Low.done {X Y Z : Int} {cs L N : List C} {i k : Nat} (h : Low X Y Z cs L N i k) (hL : Valid X Y Z L) (hi : i = L.length) (hlen : N.length ≤ L.length) : ∀ c ∈ L, ∀ q, q < 3 → 0 ≤ ci c q - 1 → lowC c q ∈ L := by
  have e := hL.eq_len h.valid h.sub hlen
  intro c hc q hq hg
  obtain ⟨j, hj, rfl⟩ := mem_at3 hc
  have := h.prev j (by omega) q hq hg
  rw [← e] at this; exact this
end Go.Sep
/- More rules for printed walks. -/
namespace Go.Sep
open Go
set_option linter.unusedVariables false
set_option linter.unusedSimpArgs false

variable {P : Program} {N : Nat} {ops : Array Oper} {r : List Oper} {K : St → Prop} {ts : Temps} {H : Heap} {n : Nat}
/-- '!=' of two cells. -/
theorem e_neqA3 {t e u : TypeId} {x y : Operand} {a b : C} {by' : Nat} {z : List Value} {by'' : Nat} {z' : List Value} {g' : Bool} (ht : ti P t = some ⟨.array 3 e, 3, by', z, false⟩) (hE : ti P e = some ⟨.int .i64, 1, by'', z', g'⟩)
    (hx : ev ts x = some (.agg #[.int .i64 a.1, .int .i64 a.2.1, .int .i64 a.2.2])) (hy : ev ts y = some (.agg #[.int .i64 b.1, .int .i64 b.2.1, .int .i64 b.2.2])) : E P (.binOp .neq t x y u) ts H n (.bool (!decide (a = b))) H n := by
  refine ⟨?_, rfl⟩
  simp only [cop, ev2, hx, hy, cBin, cEq, ht, hE]
  rw [if_pos ⟨trivial, trivial, rfl, rfl⟩, sameInts_tri]
  rfl
theorem e_neqB_same {x y : Operand} {a : Bool} {t u : TypeId} {sz by' : Nat} {z : List Value} {g : Bool} (ht : ti P t = some ⟨.bool, sz, by', z, g⟩) (hx : ev ts x = some (.bool a)) (hy : ev ts y = some (.bool a)) :
    E P (.binOp .neq t x y u) ts H n (.bool false) H n := by
  have := e_neqB (H := H) (n := n) (u := u) ht hx hy
  simpa using this
theorem e_neqI_same {x y : Operand} {a : Int} {k : IntKind} {t u : TypeId} (hx : ev ts x = some (.int k a)) (hy : ev ts y = some (.int k a)) : E P (.binOp .neq t x y u) ts H n (.bool false) H n := by
  have := e_neq (P := P) (H := H) (n := n) (t := t) (u := u) hx hy
  simpa using this
end Go.Sep
/- More plain laws: all cells, sets and rows of cells, staircases, views, stacks. -/
namespace Go.Sep
open Go
set_option linter.unusedVariables false
set_option linter.unusedSimpArgs false

/-! ### All cells of a box -/
def allC (X Y Z : Int) : List C := (List.range (vol X Y Z)).map (cellAt Y Z)
theorem allC_mem {X Y Z : Int} {c : C} (hX : Box X Y Z) : c ∈ allC X Y Z ↔ In X Y Z c := by
  unfold allC
  rw [List.mem_map]
  constructor
  · rintro ⟨i, hi, rfl⟩; exact cellAt_in hX (by simpa using hi)
  · intro h; exact ⟨cellIx Y Z c, by simpa using cellIx_lt hX h, cellAt_ix hX h⟩
theorem allC_valid {X Y Z : Int} (hX : Box X Y Z) : Valid X Y Z (allC X Y Z) := by
  refine ⟨hX, fun c hc => (allC_mem hX).mp hc, ?_⟩
  have : (allC X Y Z).map (cellIx Y Z) = List.range (vol X Y Z) := by
    unfold allC
    rw [List.map_map]
    conv => rhs; rw [← List.map_id (List.range (vol X Y Z))]
    exact List.map_congr_left fun i hi => ix_cellAt hX (by simpa using hi)
  rw [this]; exact rise_range _
theorem allC_length (X Y Z : Int) : (allC X Y Z).length = vol X Y Z := by simp [allC]
theorem allC_at {X Y Z : Int} {i : Nat} (h : i < vol X Y Z) : at3 (allC X Y Z) i = cellAt Y Z i := by simp [at3, allC, List.getD, h]
theorem Valid.filter {X Y Z : Int} {cs : List C} (h : Valid X Y Z cs) (p : C → Bool) : Valid X Y Z (cs.filter p) :=
  ⟨h.box, fun c hc => h.inn c ((List.mem_filter.mp hc).1), List.Pairwise.sublist (List.Sublist.map _ List.filter_sublist) h.rise⟩
theorem cells_those {X Y Z : Int} (hX : Box X Y Z) (f : C → Bool) : cellsOf X Y Z (thoseTo Y Z f (vol X Y Z)) = (allC X Y Z).filter f := by
  have hv := vol_le hX
  unfold cellsOf idsOf allC
  rw [List.filter_map]
  congr 1
  refine List.filter_congr fun i hi => ?_
  have hi' : i < vol X Y Z := by simpa using hi
  rw [those_get (by omega)]
  simp [hi']
/-- The cells one after the other, as three loops list them. -/
def allN (Y Z : Int) (x y z : Nat) : List C := (List.range ((x * Y.toNat + y) * Z.toNat + z)).map (cellAt Y Z)
theorem cellAt_xyz {Y Z : Int} {x y z : Nat} (hY : 1 ≤ Y ∧ Y ≤ 4) (hZ : 1 ≤ Z ∧ Z ≤ 4) (hy : y < Y.toNat) (hz : z < Z.toNat) : cellAt Y Z ((x * Y.toNat + y) * Z.toNat + z) = ((x : Int), (y : Int), (z : Int)) := by
  unfold cellAt
  obtain rfl | rfl | rfl | rfl : Y = 1 ∨ Y = 2 ∨ Y = 3 ∨ Y = 4 := by omega
  all_goals
    obtain rfl | rfl | rfl | rfl : Z = 1 ∨ Z = 2 ∨ Z = 3 ∨ Z = 4 := by omega
    all_goals
      simp at hy hz ⊢
      omega
theorem allN_zero (Y Z : Int) : allN Y Z 0 0 0 = [] := by simp [allN]
theorem allN_succ {Y Z : Int} {x y z : Nat} (hY : 1 ≤ Y ∧ Y ≤ 4) (hZ : 1 ≤ Z ∧ Z ≤ 4) (hy : y < Y.toNat) (hz : z < Z.toNat) : allN Y Z x y (z + 1) = allN Y Z x y z ++ [((x : Int), (y : Int), (z : Int))] := by
  unfold allN
  rw [← Nat.add_assoc, List.range_succ, List.map_append]
  simp [cellAt_xyz hY hZ hy hz]
theorem allN_y {Y Z : Int} {x y z : Nat} (hz : z = Z.toNat) : allN Y Z x y z = allN Y Z x (y + 1) 0 := by
  subst hz; unfold allN; congr 2; rw [← Nat.add_assoc, Nat.add_mul _ 1]; omega
theorem allN_x {Y Z : Int} {x y : Nat} (hy : y = Y.toNat) : allN Y Z x y 0 = allN Y Z (x + 1) 0 0 := by
  subst hy; unfold allN; congr 2; rw [Nat.add_mul x 1, Nat.one_mul]; simp only [Nat.add_zero]
theorem toNat_mul {a b : Int} (ha : 0 ≤ a) (hb : 0 ≤ b) : (a * b).toNat = a.toNat * b.toNat := Int.toNat_mul ha hb
theorem allN_end {X Y Z : Int} {x : Nat} (hX : Box X Y Z) (hx : x = X.toNat) : allN Y Z x 0 0 = allC X Y Z := by
  subst hx; unfold allN allC vol
  rw [toNat_mul (by have := mulXY hX.1 hX.2.1; omega) (by have := hX.2.2; omega), toNat_mul (by have := hX.1; omega) (by have := hX.2.1; omega)]; rfl
theorem allN_len {X Y Z : Int} {x y z : Nat} (hX : Box X Y Z) (hx : x ≤ 4) (hy : y ≤ 4) (hz : z ≤ 4) : (allN Y Z x y z).length ≤ 1000 := by
  unfold allN
  simp only [List.length_map, List.length_range]
  obtain ⟨_, hY, hZ⟩ := hX
  have h1 : x * Y.toNat ≤ 4 * 4 := Nat.mul_le_mul hx (by omega)
  have h2 : (x * Y.toNat + y) * Z.toNat ≤ 20 * 4 := Nat.mul_le_mul (by omega) (by omega)
  omega

/-! ### A set and the row of its cells -/
structure Rep (X Y Z : Int) (s : BitVec 64) (L : List C) : Prop where
  valid : Valid X Y Z L
  mem : ∀ c, In X Y Z c → (s.getLsbD (cellIx Y Z c) = true ↔ c ∈ L)
  top : ∀ j, j < 64 → s.getLsbD j = true → j < vol X Y Z
theorem Rep.cells {X Y Z : Int} {s : BitVec 64} {L : List C} (h : Rep X Y Z s L) : cellsOf X Y Z s = L :=
  (cells_valid s h.valid.box).ext h.valid fun c hc => by rw [cells_mem h.valid.box, h.mem c hc]; exact ⟨fun x => x.2, fun x => ⟨hc, x⟩⟩
theorem Rep.eq {X Y Z : Int} {s t : BitVec 64} {L : List C} (h : Rep X Y Z s L) (k : Rep X Y Z t L) : s = t := by
  have hX := h.valid.box
  apply BitVec.eq_of_getLsbD_eq
  intro j hj
  rw [Bool.eq_iff_iff]
  constructor
  · intro g
    have hjv := h.top j hj g
    have := h.mem _ (cellAt_in hX hjv)
    have h2 := k.mem _ (cellAt_in hX hjv)
    rw [ix_cellAt hX hjv] at this h2
    exact h2.mpr (this.mp g)
  · intro g
    have hjv := k.top j hj g
    have := h.mem _ (cellAt_in hX hjv)
    have h2 := k.mem _ (cellAt_in hX hjv)
    rw [ix_cellAt hX hjv] at this h2
    exact this.mpr (h2.mp g)
theorem Rep.congr {X Y Z : Int} {s : BitVec 64} {L M : List C} (h : Rep X Y Z s L) (hM : Valid X Y Z M) (e : ∀ c, In X Y Z c → (c ∈ L ↔ c ∈ M)) : Rep X Y Z s M := by
  rw [← h.valid.ext hM e]; exact h
theorem rep_mask {X Y Z : Int} {cs : List C} (h : Valid X Y Z cs) : Rep X Y Z (mask Y Z cs) cs :=
  ⟨h, fun c hc => mask_mem h.box h.inn hc, fun j hj g => by
    rw [mask_get hj, List.any_eq_true] at g
    obtain ⟨c, hc, e⟩ := g
    have := cellIx_lt h.box (h.inn c hc)
    simp at e; omega⟩
theorem those_mem {X Y Z : Int} (hX : Box X Y Z) {f : C → Bool} {c : C} (hc : In X Y Z c) : (thoseTo Y Z f (vol X Y Z)).getLsbD (cellIx Y Z c) = f c := by
  rw [those_get (cellIx_lt64 hX hc), cellAt_ix hX hc]
  simp [cellIx_lt hX hc]
theorem rep_those {X Y Z : Int} (hX : Box X Y Z) (f : C → Bool) : Rep X Y Z (thoseTo Y Z f (vol X Y Z)) ((allC X Y Z).filter f) :=
  ⟨(allC_valid hX).filter f, fun c hc => by rw [those_mem hX hc, List.mem_filter, allC_mem hX]; exact ⟨fun h => ⟨hc, h⟩, fun h => h.2⟩, fun j hj g => by
    rw [those_get hj] at g; simp at g; exact g.1⟩
theorem rep_cells {X Y Z : Int} (hX : Box X Y Z) {s : BitVec 64} (h : ∀ j, j < 64 → s.getLsbD j = true → j < vol X Y Z) : Rep X Y Z s (cellsOf X Y Z s) :=
  ⟨cells_valid s hX, fun c hc => by rw [cells_mem hX]; exact ⟨fun g => ⟨hc, g⟩, fun g => g.2⟩, h⟩
theorem one_get {X Y Z : Int} (hX : Box X Y Z) {c d : C} (hc : In X Y Z c) (hd : In X Y Z d) : ((1#64 : BitVec 64) <<< cellIx Y Z c).getLsbD (cellIx Y Z d) = decide (d = c) := by
  rw [bit_get (cellIx_lt64 hX hd), decide_eq_decide]
  exact ⟨fun e => ix_inj hX hd hc e, fun e => by rw [e]⟩
theorem Rep.one {X Y Z : Int} (hX : Box X Y Z) {c : C} (hc : In X Y Z c) : Rep X Y Z ((1#64 : BitVec 64) <<< cellIx Y Z c) [c] :=
  ⟨⟨hX, by intro d hd; simp at hd; rw [hd]; exact hc, by simp [Rise]⟩, fun d hd => by rw [one_get hX hc hd]; simp, fun j hj g => by
    rw [bit_get hj] at g; simp at g; rw [g]; exact cellIx_lt hX hc⟩
theorem rep_zero {X Y Z : Int} (hX : Box X Y Z) : Rep X Y Z 0#64 [] := ⟨valid_nil hX, by simp, by simp⟩
def without (L : List C) (c : C) : List C := L.filter fun d => !decide (d = c)
theorem Rep.without {X Y Z : Int} {s : BitVec 64} {L : List C} (h : Rep X Y Z s L) {c : C} (hc : In X Y Z c) : Rep X Y Z (s &&& ~~~ (1#64 <<< cellIx Y Z c)) (without L c) :=
  ⟨h.valid.filter _, fun d hd => by
    have hlt := cellIx_lt64 h.valid.box hd
    rw [BitVec.getLsbD_and, BitVec.getLsbD_not, one_get h.valid.box hc hd, Go.Sep.without, List.mem_filter, ← h.mem d hd]
    simp [hlt], fun j hj g => h.top j hj (by rw [BitVec.getLsbD_and] at g; simp at g; exact g.1)⟩
theorem Rep.withC {X Y Z : Int} {s : BitVec 64} {L : List C} (h : Rep X Y Z s L) {c : C} (hc : In X Y Z c) : Rep X Y Z (s ||| 1#64 <<< cellIx Y Z c) (withC L c) :=
  ⟨(withC_valid h.valid hc).1, fun d hd => by
    rw [BitVec.getLsbD_or, one_get h.valid.box hc hd, (withC_valid h.valid hc).2, ← h.mem d hd]; simp, fun j hj g => by
    rw [BitVec.getLsbD_or, bit_get hj] at g
    simp at g
    rcases g with g | g
    · exact h.top j hj g
    · rw [g]; exact cellIx_lt h.valid.box hc⟩
theorem Rep.inter {X Y Z : Int} {s t : BitVec 64} {L M : List C} (h : Rep X Y Z s L) (k : Rep X Y Z t M) : Rep X Y Z (s &&& t) (L.filter fun c => decide (c ∈ M)) :=
  ⟨h.valid.filter _, fun d hd => by rw [BitVec.getLsbD_and, List.mem_filter, ← h.mem d hd]; simp [k.mem d hd], fun j hj g => h.top j hj (by rw [BitVec.getLsbD_and] at g; simp at g; exact g.1)⟩
theorem Rep.diff {X Y Z : Int} {s t : BitVec 64} {L M : List C} (h : Rep X Y Z s L) (k : Rep X Y Z t M) : Rep X Y Z (s &&& ~~~ t) (L.filter fun c => !decide (c ∈ M)) :=
  ⟨h.valid.filter _, fun d hd => by
    have hlt := cellIx_lt64 h.valid.box hd
    rw [BitVec.getLsbD_and, BitVec.getLsbD_not, List.mem_filter, ← h.mem d hd]
    have := k.mem d hd
    cases h3 : t.getLsbD (cellIx Y Z d) <;> simp [h3] at this <;> simp [hlt, this], fun j hj g => h.top j hj (by rw [BitVec.getLsbD_and] at g; simp at g; exact g.1)⟩
theorem Rep.union {X Y Z : Int} {s t : BitVec 64} {L M : List C} (h : Rep X Y Z s L) (k : Rep X Y Z t M) : Rep X Y Z (s ||| t) ((allC X Y Z).filter fun c => decide (c ∈ L) || decide (c ∈ M)) :=
  ⟨(allC_valid h.valid.box).filter _, fun d hd => by
    rw [BitVec.getLsbD_or, List.mem_filter]
    simp [h.mem d hd, k.mem d hd, show d ∈ allC X Y Z from (allC_mem h.valid.box).mpr hd], fun j hj g => by
    rw [BitVec.getLsbD_or] at g
    simp at g
    exact g.elim (h.top j hj) (k.top j hj)⟩
/-- Whether a set is empty, or just another one. -/
theorem Rep.eq_iff {X Y Z : Int} {s t : BitVec 64} {L M : List C} (h : Rep X Y Z s L) (k : Rep X Y Z t M) : s = t ↔ L = M :=
  ⟨fun e => by rw [← h.cells, e, k.cells], fun e => by subst e; exact h.eq k⟩
theorem Rep.zero_iff {X Y Z : Int} {s : BitVec 64} {L : List C} (h : Rep X Y Z s L) : s = 0#64 ↔ L = [] := h.eq_iff (rep_zero h.valid.box)
theorem Rep.has {X Y Z : Int} {s : BitVec 64} {L : List C} (h : Rep X Y Z s L) {c : C} (hc : In X Y Z c) : s.getLsbD (cellIx Y Z c) = decide (c ∈ L) := by
  rw [Bool.eq_iff_iff]; simp [h.mem c hc]
theorem Rep.and_one {X Y Z : Int} {s : BitVec 64} {L : List C} (h : Rep X Y Z s L) {c : C} (hc : In X Y Z c) : decide (s &&& 1#64 <<< cellIx Y Z c = 0#64) = !decide (c ∈ L) := by
  rw [← h.has hc]
  have hz := (h.inter (Rep.one h.valid.box hc)).zero_iff
  rw [Bool.eq_iff_iff, decide_eq_true_eq, hz, List.filter_eq_nil_iff, h.has hc]
  simp
  exact ⟨fun g e => g _ _ _ e rfl, fun g a b c hm e => g (e ▸ hm)⟩

/-! ### Staircases -/
def stairS (X Y Z : Int) (s : BitVec 64) : Bool := (cellsOf X Y Z s).all fun c => decide (thoseTo Y Z (fun e => leC e c) (vol X Y Z) &&& ~~~ s = 0#64)
def ClosedD (X Y Z : Int) (L : List C) : Prop := ∀ c ∈ L, ∀ e, In X Y Z e → leC e c = true → e ∈ L
def stairC (cs : List C) : Bool := cs.all fun c => (List.range 3).all fun k => decide (ci c k - 1 < 0) || decide (lowC c k ∈ cs)
theorem stairS_iff {X Y Z : Int} {s : BitVec 64} {L : List C} (h : Rep X Y Z s L) : stairS X Y Z s = true ↔ ClosedD X Y Z L := by
  have hX := h.valid.box
  unfold stairS
  rw [h.cells, List.all_eq_true]
  refine forall_congr' fun c => forall_congr' fun hc => ?_
  rw [decide_eq_true_eq, ((rep_those hX _).diff h).zero_iff, List.filter_eq_nil_iff]
  constructor
  · intro g e he hle
    have := g e (List.mem_filter.mpr ⟨(allC_mem hX).mpr he, hle⟩)
    simpa using this
  · intro g e he
    obtain ⟨h1, h2⟩ := List.mem_filter.mp he
    have := g e ((allC_mem hX).mp h1) h2
    simp [this]
theorem stairC_iff {X Y Z : Int} {L : List C} (h : Valid X Y Z L) : stairC L = true ↔ ClosedD X Y Z L := by
  unfold stairC
  simp only [List.all_eq_true, List.mem_range, Bool.or_eq_true, decide_eq_true_eq]
  constructor
  · intro g c hc e he hle
    exact down_closed (fun c hc k hk h0 => (g c hc k hk).resolve_left (by omega)) _ c e hc he hle rfl
  · intro g c hc k hk
    by_cases h0 : ci c k - 1 < 0
    · exact .inl h0
    · exact .inr (g c hc _ (low_in hk (h.inn c hc) (by omega)) (low_le (leC_refl c)))
theorem stair_eq {X Y Z : Int} {s : BitVec 64} {L : List C} (h : Rep X Y Z s L) : stairS X Y Z s = stairC L := by
  rw [Bool.eq_iff_iff, stairS_iff h, stairC_iff h.valid]
theorem leC_ix {X Y Z : Int} {c e : C} (hX : Box X Y Z) (hc : In X Y Z c) (he : In X Y Z e) (h : leC e c = true) : cellIx Y Z e ≤ cellIx Y Z c := by
  by_cases g : e = c
  · subst g; omega
  · have : before e c = true := by
      simp only [leC, Bool.and_eq_true, decide_eq_true_eq] at h
      obtain ⟨e1, e2, e3⟩ := e
      obtain ⟨c1, c2, c3⟩ := c
      simp only [Prod.mk.injEq] at g
      simp only at h
      unfold before
      simp only
      split
      · simp; omega
      · split
        · simp; omega
        · split
          · simp; omega
          · exact absurd ⟨by omega, by omega, by omega⟩ g
    exact Nat.le_of_lt ((before_ix hX he hc).mp this)

/-! ### Views -/
def o1 (p : Nat) : Nat := if p = 0 then 1 else 0
def o2 (p : Nat) : Nat := if p = 0 then 2 else if p = 1 then 2 else 1
theorem oth1_cast (p : Nat) : oth1 (p : Int) = (o1 p : Int) := by
  unfold oth1 o1; by_cases h : p = 0 <;> simp [h]
theorem oth2_cast (p : Nat) : oth2 (p : Int) = (o2 p : Int) := by
  unfold oth2 o2
  by_cases h : p = 0
  · simp [h]
  · by_cases h2 : p = 1
    · simp [h2]
    · have : ¬ (p : Int) = 0 := by omega
      have : ¬ (p : Int) = 1 := by omega
      simp [*]
theorem o1_lt {p : Nat} : o1 p < 3 := by unfold o1; split <;> omega
theorem o2_lt {p : Nat} : o2 p < 3 := by unfold o2; split <;> (try split) <;> omega
def lineIx (X Y Z : Int) (p : Nat) (c : C) : Nat := (ci c (o1 p) * ci (X, Y, Z) (o2 p) + ci c (o2 p)).toNat
def linesOf (X Y Z : Int) (p : Nat) : Nat := (ci (X, Y, Z) (o1 p) * ci (X, Y, Z) (o2 p)).toNat
theorem ciS {X Y Z : Int} (hX : Box X Y Z) (k : Nat) : 1 ≤ ci (X, Y, Z) k ∧ ci (X, Y, Z) k ≤ 4 := by
  unfold ci; split
  · exact hX.1
  · split
    · exact hX.2.1
    · exact hX.2.2
theorem ciC {X Y Z : Int} {c : C} (hc : In X Y Z c) (k : Nat) : 0 ≤ ci c k ∧ ci c k < ci (X, Y, Z) k := by
  unfold ci; split
  · exact hc.1
  · split
    · exact hc.2.1
    · exact hc.2.2
theorem line_bd {X Y Z : Int} {c : C} (hX : Box X Y Z) (p : Nat) (hc : In X Y Z c) : ci c (o1 p) * ci (X, Y, Z) (o2 p) + ci c (o2 p) = (lineIx X Y Z p c : Int) ∧ lineIx X Y Z p c < linesOf X Y Z p := by
  have := ix2 (ciC hc (o1 p)) (ciC hc (o2 p)) (ciS hX (o2 p))
  unfold lineIx linesOf
  omega
theorem lines_bd {X Y Z : Int} (hX : Box X Y Z) (p : Nat) : ci (X, Y, Z) (o1 p) * ci (X, Y, Z) (o2 p) = (linesOf X Y Z p : Int) ∧ 1 ≤ linesOf X Y Z p ∧ linesOf X Y Z p ≤ 16 := by
  have := mulXY (ciS hX (o1 p)) (ciS hX (o2 p))
  unfold linesOf
  omega
theorem mulC_bd {X Y Z : Int} {c : C} (hX : Box X Y Z) (hc : In X Y Z c) (j k : Nat) : 0 ≤ ci c j * ci (X, Y, Z) k ∧ ci c j * ci (X, Y, Z) k ≤ 12 := by
  have h1 := ciC hc j
  have h2 := ciS hX j
  exact mul_bd (by omega) (ciS hX k)
theorem lines_div {X Y Z : Int} (hX : Box X Y Z) {p : Nat} (hp : p < 3) : ((vol X Y Z : Nat) : Int).tdiv (ci (X, Y, Z) p) = (linesOf X Y Z p : Int) := by
  rw [← (lines_bd hX p).1, ← vol_cast hX]
  obtain rfl | rfl | rfl : p = 0 ∨ p = 1 ∨ p = 2 := by omega
  · simp only [ci, o1, o2]
    simp
    rw [show X * Y * Z = Y * Z * X by rw [Int.mul_assoc, Int.mul_comm]]
    exact Int.mul_tdiv_cancel _ (by have := hX.1; omega)
  · simp only [ci, o1, o2]
    simp
    rw [show X * Y * Z = X * Z * Y by rw [Int.mul_assoc, Int.mul_assoc, Int.mul_comm Y Z]]
    exact Int.mul_tdiv_cancel _ (by have := hX.2.1; omega)
  · simp only [ci, o1, o2]
    simp
    exact Int.mul_tdiv_cancel _ (by have := hX.2.2; omega)
def viewStep (X Y Z : Int) (p : Nat) (o : List Int) (c : C) : List Int := o.set (lineIx X Y Z p c) (at1 o (lineIx X Y Z p c) + 1)
def viewN (X Y Z : Int) (p : Nat) (cs : List C) (i : Nat) : List Int := (cs.take i).foldl (viewStep X Y Z p) (List.replicate (linesOf X Y Z p) 0)
theorem viewN_zero (X Y Z : Int) (p : Nat) (cs : List C) : viewN X Y Z p cs 0 = List.replicate (linesOf X Y Z p) 0 := by simp [viewN]
theorem viewN_succ {X Y Z : Int} {p : Nat} {cs : List C} {i : Nat} (h : i < cs.length) : viewStep X Y Z p (viewN X Y Z p cs i) (at3 cs i) = viewN X Y Z p cs (i + 1) := by
  unfold viewN
  rw [take_succ3 h, List.foldl_append]; rfl
theorem viewN_length (X Y Z : Int) (p : Nat) (cs : List C) (i : Nat) : (viewN X Y Z p cs i).length = linesOf X Y Z p := by
  unfold viewN
  suffices h : ∀ (l : List C) (o : List Int), (l.foldl (viewStep X Y Z p) o).length = o.length by rw [h]; simp
  intro l
  induction l with
  | nil => intro o; rfl
  | cons c l ih => intro o; rw [List.foldl_cons, ih]; simp [viewStep]
theorem viewN_bd {X Y Z : Int} {p : Nat} {cs : List C} : ∀ (i : Nat), i ≤ cs.length → ∀ j, 0 ≤ at1 (viewN X Y Z p cs i) j ∧ at1 (viewN X Y Z p cs i) j ≤ (i : Int)
  | 0, _, j => by rw [viewN_zero, at1_replicate]; omega
  | i + 1, h, j => by
    have h1 := viewN_bd (X := X) (Y := Y) (Z := Z) (p := p) (cs := cs) i (by omega) j
    have h2 := viewN_bd (X := X) (Y := Y) (Z := Z) (p := p) (cs := cs) i (by omega) (lineIx X Y Z p (at3 cs i))
    rw [← viewN_succ (by omega), viewStep, at1_set]
    split <;> omega
abbrev viewL (X Y Z : Int) (p : Nat) (cs : List C) : List Int := viewN X Y Z p cs cs.length

/-! ### Stacks -/
def stkF (Y : Int) (hs : List Int) (c : C) : Bool := decide (c.2.2 < at1 hs (topIx Y c))
theorem line2 (X Y Z : Int) (c : C) : lineIx X Y Z 2 c = topIx Y c := rfl
theorem lines2 (X Y Z : Int) : linesOf X Y Z 2 = (X * Y).toNat := rfl

/-! ### Sums of heights -/
def sumN (cs : List C) (i : Nat) : Int := ((cs.take i).map fun c => c.2.2).sum
theorem sumN_zero (cs : List C) : sumN cs 0 = 0 := rfl
theorem sumN_succ {cs : List C} {i : Nat} (h : i < cs.length) : sumN cs i + (at3 cs i).2.2 = sumN cs (i + 1) := by
  unfold sumN; rw [take_succ3 h]; simp
theorem sumN_bd {X Y Z : Int} {cs : List C} (hv : Valid X Y Z cs) : ∀ i, i ≤ cs.length → 0 ≤ sumN cs i ∧ sumN cs i ≤ 3 * (i : Int)
  | 0, _ => by simp [sumN_zero]
  | i + 1, h => by
    have ih := sumN_bd hv i (by omega)
    have hc := hv.inn _ (at3_mem (show i < cs.length by omega))
    have hX := hv.box
    simp only [In, Box] at hc hX
    rw [← sumN_succ (by omega)]; omega

/-! ### The heights of a staircase -/
theorem tops_le {X Y : Int} {cs : List C} {j : Nat} {t : Int} (ht : 0 ≤ t) : ∀ i, i ≤ cs.length → (∀ k, k < i → topIx Y (at3 cs k) = j → (at3 cs k).2.2 + 1 ≤ t) → at1 (topsN X Y cs i) j ≤ t
  | 0, _, _ => by rw [topsN_zero, at1_replicate]; exact ht
  | i + 1, h, hk => by
    have ih := tops_le (X := X) ht i (by omega) fun k hk' => hk k (by omega)
    rw [← topsN_succ (by omega), topStep, at1_set]
    split
    · rename_i e
      have := hk i (by omega) e.1
      rw [e.1]; omega
    · exact ih
theorem le_tops {X Y : Int} {cs : List C} {j : Nat} (hj : j < (X * Y).toNat) : ∀ i, i ≤ cs.length → ∀ k, k < i → topIx Y (at3 cs k) = j → (at3 cs k).2.2 + 1 ≤ at1 (topsN X Y cs i) j
  | 0, _, k, hk, _ => by omega
  | i + 1, h, k, hk, e => by
    rw [← topsN_succ (by omega), topStep, at1_set]
    rcases Nat.lt_or_ge k i with g | g
    · have ih := le_tops hj i (by omega) k g e
      split
      · rename_i e2; rw [e2.1]; omega
      · exact ih
    · obtain rfl : k = i := by omega
      rw [if_pos ⟨e, by rw [topsN_length, e]; exact hj⟩]; omega
theorem ix_mono {X Y Z : Int} {cs : List C} (hv : Valid X Y Z cs) {j k : Nat} (hj : j < k) (hk : k < cs.length) : cellIx Y Z (at3 cs j) < cellIx Y Z (at3 cs k) := by
  have := List.pairwise_iff_getElem.mp hv.rise j k (by simp; omega) (by simpa using hk) hj
  simpa [at3, List.getD, show j < cs.length by omega, hk] using this
theorem top_same {X Y Z : Int} {a b : C} (hX : Box X Y Z) (ha : In X Y Z a) (hb : In X Y Z b) (h : topIx Y a = topIx Y b) : a.1 = b.1 ∧ a.2.1 = b.2.1 := by
  have e1 := (ix_bd hX ha).1
  have e2 := (ix_bd hX hb).1
  rw [h, ← e2] at e1
  obtain ⟨a1, a2, a3⟩ := a
  obtain ⟨b1, b2, b3⟩ := b
  obtain ⟨_, hY, hZ⟩ := hX
  simp only [In] at ha hb
  simp only at e1 ⊢
  obtain rfl | rfl | rfl | rfl : Y = 1 ∨ Y = 2 ∨ Y = 3 ∨ Y = 4 := by omega
  all_goals omega
theorem stair_top {X Y Z : Int} {cs : List C} (hv : Valid X Y Z cs) (hc : ClosedD X Y Z cs) {i : Nat} (hi : i < cs.length) : at1 (topsN X Y cs i) (topIx Y (at3 cs i)) = (at3 cs i).2.2 := by
  have hX := hv.box
  have hin := hv.inn _ (at3_mem hi)
  have h0 : 0 ≤ (at3 cs i).2.2 := hin.2.2.1
  have hle : at1 (topsN X Y cs i) (topIx Y (at3 cs i)) ≤ (at3 cs i).2.2 := tops_le h0 i (by omega) fun k hk e => by
    have hik := hv.inn _ (at3_mem (show k < cs.length by omega))
    have h1 := ix_mono hv hk hi
    rw [← before_ix hX hik hin] at h1
    obtain ⟨h2, h3⟩ := top_same hX hik hin e
    simp only [before, h2, h3, ne_eq, not_true, if_false] at h1
    split at h1
    · have := of_decide_eq_true h1; omega
    · simp at h1
  rcases Int.lt_or_le 0 (at3 cs i).2.2 with g | g
  · have hlow : In X Y Z ((at3 cs i).1, (at3 cs i).2.1, (at3 cs i).2.2 - 1) := ⟨hin.1, hin.2.1, by have := hin.2.2; simp only; omega⟩
    have hmem := hc _ (at3_mem hi) _ hlow (by simp [leC]; omega)
    obtain ⟨k, hk, e⟩ := mem_at3 hmem
    have hki : k < i := by
      rcases Nat.lt_or_ge k i with g2 | g2
      · exact g2
      · exfalso
        rcases Nat.eq_or_lt_of_le g2 with e2 | g3
        · subst e2; have := congrArg (fun c : C => c.2.2) e; simp at this; omega
        · have := ix_mono hv g3 hk
          rw [e, ← before_ix hX hin hlow] at this
          simp [before] at this
          omega
    have := le_tops (X := X) (cs := cs) (ix_bd hX hin).2 i (Nat.le_of_lt hi) k hki (by rw [e]; rfl)
    rw [e] at this
    simp only at this
    omega
  · have := (topsN_bd (X := X) (Y := Y) (Z := Z) (cs := cs) (by have := hX.2.2; omega) (fun j hj => inBox_of (hv.inn _ (at3_mem hj))) i (by omega) (topIx Y (at3 cs i))).1
    omega
theorem stair_heights {X Y Z : Int} {cs : List C} (hv : Valid X Y Z cs) (hc : ClosedD X Y Z cs) : ∀ i, i ≤ cs.length → topsN X Y cs i = viewN X Y Z 2 cs i
  | 0, _ => by rw [topsN_zero, viewN_zero]; rfl
  | i + 1, h => by
    have ih := stair_heights hv hc i (by omega)
    have ht := stair_top hv hc (show i < cs.length by omega)
    rw [← topsN_succ (by omega), ← viewN_succ (by omega), topStep, viewStep, ← ih, line2, ht]
    congr 1
    omega

/-! ### The greatest staircase -/
def allBelow (X Y Z : Int) (cs : List C) (c : C) : Bool := (allC X Y Z).all fun e => !leC e c || decide (e ∈ cs)
theorem allBelow_iff {X Y Z : Int} (hX : Box X Y Z) {cs : List C} {c : C} : allBelow X Y Z cs c = true ↔ ∀ e, In X Y Z e → leC e c = true → e ∈ cs := by
  unfold allBelow
  rw [List.all_eq_true]
  constructor
  · intro h e he hle
    have := h e ((allC_mem hX).mpr he)
    simpa [hle] using this
  · intro h e he
    have := h e ((allC_mem hX).mp he)
    cases g : leC e c <;> simp [g] at this ⊢
    exact this
theorem below_zero {X Y Z : Int} {s : BitVec 64} {L : List C} (h : Rep X Y Z s L) (c : C) : decide (thoseTo Y Z (fun e => leC e c) (vol X Y Z) &&& ~~~ s = 0#64) = allBelow X Y Z L c := by
  have hX := h.valid.box
  rw [Bool.eq_iff_iff, decide_eq_true_eq, ((rep_those hX _).diff h).zero_iff, List.filter_eq_nil_iff, allBelow_iff hX]
  constructor
  · intro g e he hle
    have := g e (List.mem_filter.mpr ⟨(allC_mem hX).mpr he, hle⟩)
    simpa using this
  · intro g e he
    obtain ⟨h1, h2⟩ := List.mem_filter.mp he
    have := g e ((allC_mem hX).mp h1) h2
    simp [this]
/-- The reference's greatest staircase: cell after cell. -/
def grtN (X Y Z : Int) (cs : List C) (i : Nat) : List C := ((allC X Y Z).take i).foldl (fun out c => if decide (c ∈ cs) && stairC (withC out c) then withC out c else out) []
theorem grtN_succ {X Y Z : Int} {cs : List C} {i : Nat} (h : i < vol X Y Z) : grtN X Y Z cs (i + 1) = if decide (cellAt Y Z i ∈ cs) && stairC (withC (grtN X Y Z cs i) (cellAt Y Z i)) then withC (grtN X Y Z cs i) (cellAt Y Z i) else grtN X Y Z cs i := by
  unfold grtN
  rw [take_succ3 (by rw [allC_length]; exact h), List.foldl_append, allC_at h]; rfl
theorem leC_trans {a b c : C} (h1 : leC a b = true) (h2 : leC b c = true) : leC a c = true := by
  simp only [leC, Bool.and_eq_true, decide_eq_true_eq] at *; omega
theorem leC_antisymm {a b : C} (h1 : leC a b = true) (h2 : leC b a = true) : a = b := by
  obtain ⟨a1, a2, a3⟩ := a
  obtain ⟨b1, b2, b3⟩ := b
  simp only [leC, Bool.and_eq_true, decide_eq_true_eq, Prod.mk.injEq] at *; omega
theorem grtN_mem {X Y Z : Int} {cs : List C} (hX : Box X Y Z) : ∀ i, i ≤ vol X Y Z → Valid X Y Z (grtN X Y Z cs i) ∧ ∀ c, In X Y Z c → (c ∈ grtN X Y Z cs i ↔ cellIx Y Z c < i ∧ allBelow X Y Z cs c = true)
  | 0, _ => ⟨valid_nil hX, fun c _ => by simp [grtN]⟩
  | i + 1, h => by
    obtain ⟨ih1, ih2⟩ := grtN_mem hX i (by omega)
    have hd := cellAt_in hX (show i < vol X Y Z by omega)
    have hix := ix_cellAt hX (show i < vol X Y Z by omega)
    obtain ⟨w1, w2⟩ := withC_valid ih1 hd
    have key : (decide (cellAt Y Z i ∈ cs) && stairC (withC (grtN X Y Z cs i) (cellAt Y Z i))) = allBelow X Y Z cs (cellAt Y Z i) := by
      rw [Bool.eq_iff_iff, Bool.and_eq_true, decide_eq_true_eq, stairC_iff w1, allBelow_iff hX]
      constructor
      · rintro ⟨h1, h2⟩ e he hle
        rcases (w2 e).mp (h2 _ ((w2 _).mpr (.inr rfl)) e he hle) with g | g
        · have := (allBelow_iff hX).mp ((ih2 e he).mp g).2 e he (leC_refl e)
          exact this
        · rw [g]; exact h1
      · intro hb
        refine ⟨hb _ hd (leC_refl _), fun c hc e he hle => (w2 e).mpr ?_⟩
        rcases (w2 c).mp hc with g | g
        · have hcin := ih1.inn c g
          obtain ⟨h1, h2⟩ := (ih2 c hcin).mp g
          refine .inl ((ih2 e he).mpr ⟨by have := leC_ix hX hcin he hle; omega, (allBelow_iff hX).mpr fun e' he' hle' => (allBelow_iff hX).mp h2 e' he' (leC_trans hle' hle)⟩)
        · subst g
          by_cases g2 : e = cellAt Y Z i
          · exact .inr g2
          · refine .inl ((ih2 e he).mpr ⟨?_, (allBelow_iff hX).mpr fun e' he' hle' => hb e' he' (leC_trans hle' hle)⟩)
            have h1 := leC_ix hX hd he hle
            rcases Nat.eq_or_lt_of_le h1 with g3 | g3
            · exact absurd (ix_inj hX he hd g3) g2
            · omega
    rw [grtN_succ (by omega), key]
    cases hb : allBelow X Y Z cs (cellAt Y Z i) with
    | true =>
      rw [if_pos rfl]
      refine ⟨w1, fun c hc => ?_⟩
      rw [w2, ih2 c hc]
      constructor
      · rintro (⟨g1, g2⟩ | g)
        · exact ⟨by omega, g2⟩
        · subst g; exact ⟨by omega, hb⟩
      · rintro ⟨g1, g2⟩
        rcases Nat.lt_or_ge (cellIx Y Z c) i with g3 | g3
        · exact .inl ⟨g3, g2⟩
        · exact .inr (ix_inj hX hc hd (by omega))
    | false =>
      rw [if_neg (by simp)]
      refine ⟨ih1, fun c hc => ?_⟩
      rw [ih2 c hc]
      constructor
      · rintro ⟨g1, g2⟩; exact ⟨by omega, g2⟩
      · rintro ⟨g1, g2⟩
        refine ⟨?_, g2⟩
        rcases Nat.lt_or_ge (cellIx Y Z c) i with g3 | g3
        · exact g3
        · have := ix_inj hX hc hd (by omega)
          subst this; rw [hb] at g2; simp at g2
theorem grt_cells {X Y Z : Int} {cs : List C} (hX : Box X Y Z) : (allC X Y Z).filter (allBelow X Y Z cs) = grtN X Y Z cs (vol X Y Z) := by
  obtain ⟨h1, h2⟩ := grtN_mem (cs := cs) hX _ (Nat.le_refl _)
  refine ((allC_valid hX).filter _).ext h1 fun c hc => ?_
  rw [h2 c hc, List.mem_filter, allC_mem hX]
  exact ⟨fun g => ⟨cellIx_lt hX hc, g.2⟩, fun g => ⟨hc, g.2⟩⟩

/-! ### Cells of a row for which something is so, one after the other -/
def filN (f : C → Bool) (L : List C) (i : Nat) : List C := (L.take i).filter f
theorem filN_zero (f : C → Bool) (L : List C) : filN f L 0 = [] := by simp [filN]
theorem filN_T {f : C → Bool} {L : List C} {i : Nat} (hi : i < L.length) (h : f (at3 L i) = true) : filN f L (i + 1) = filN f L i ++ [at3 L i] := by
  unfold filN; rw [take_succ3 hi, List.filter_append]; simp only [List.filter_cons, h, List.filter_nil, if_true]
theorem filN_F {f : C → Bool} {L : List C} {i : Nat} (hi : i < L.length) (h : f (at3 L i) = false) : filN f L (i + 1) = filN f L i := by
  unfold filN; rw [take_succ3 hi, List.filter_append]; simp only [List.filter_cons, h, List.filter_nil, Bool.false_eq_true, if_false, List.append_nil]
theorem filN_all (f : C → Bool) (L : List C) : filN f L L.length = L.filter f := by simp [filN]
theorem filN_len (f : C → Bool) (L : List C) (i : Nat) : (filN f L i).length ≤ i := by
  unfold filN; exact Nat.le_trans (List.length_filter_le _ _) (by simp; omega)

/-! ### Steps of the reference's test for a staircase -/
def lowOk (cs : List C) (c : C) (k : Nat) : Bool := decide (ci c k - 1 < 0) || decide (lowC c k ∈ cs)
theorem stairC_eq (cs : List C) : stairC cs = cs.all fun c => (List.range 3).all fun k => lowOk cs c k := rfl
theorem lowOk_no {cs : List C} {c : C} {k : Nat} (hk : k < 3) (h1 : 0 ≤ ci (lowC c k) k) (h2 : ¬ lowC c k ∈ cs) : lowOk cs c k = false := by
  rw [ci_low hk] at h1
  have h3 : ¬ ci c k - 1 < 0 := by omega
  simp only [lowOk, h2, h3, decide_false, Bool.or_self]
theorem lowOk_yes1 {cs : List C} {c : C} {k : Nat} (hk : k < 3) (h1 : ¬ 0 ≤ ci (lowC c k) k) : lowOk cs c k = true := by
  rw [ci_low hk] at h1
  have h3 : ci c k - 1 < 0 := by omega
  simp only [lowOk, h3, decide_true, Bool.true_or]
theorem lowOk_yes2 {cs : List C} {c : C} {k : Nat} (h2 : lowC c k ∈ cs) : lowOk cs c k = true := by
  simp only [lowOk, h2, decide_true, Bool.or_true]
theorem stairC_no {cs : List C} {i k : Nat} (hi : i < cs.length) (hk : k < 3) (h : lowOk cs (at3 cs i) k = false) : stairC cs = false := by
  rw [stairC_eq, List.all_eq_false]
  refine ⟨_, at3_mem hi, ?_⟩
  rw [Bool.not_eq_true, List.all_eq_false]
  exact ⟨k, by simpa using hk, by rw [h]; simp⟩
theorem stairC_yes {cs : List C} (h : ∀ j, j < cs.length → ∀ k, k < 3 → lowOk cs (at3 cs j) k = true) : stairC cs = true := by
  rw [stairC_eq, List.all_eq_true]
  intro c hc
  obtain ⟨j, hj, rfl⟩ := mem_at3 hc
  rw [List.all_eq_true]
  intro k hk
  exact h j hj k (by simpa using hk)
theorem stairS_no {X Y Z : Int} {s : BitVec 64} {i : Nat} (hi : i < (cellsOf X Y Z s).length) (h : ¬ thoseTo Y Z (fun e => leC e (at3 (cellsOf X Y Z s) i)) (vol X Y Z) &&& ~~~ s = 0#64) : stairS X Y Z s = false := by
  unfold stairS
  rw [List.all_eq_false]
  exact ⟨_, at3_mem hi, by simpa using h⟩
theorem stairS_yes {X Y Z : Int} {s : BitVec 64} (h : ∀ j, j < (cellsOf X Y Z s).length → thoseTo Y Z (fun e => leC e (at3 (cellsOf X Y Z s) j)) (vol X Y Z) &&& ~~~ s = 0#64) : stairS X Y Z s = true := by
  unfold stairS
  rw [List.all_eq_true]
  intro c hc
  obtain ⟨j, hj, rfl⟩ := mem_at3 hc
  exact decide_eq_true (h j hj)

/-! ### Whether a cell has a cube -/
theorem has_no {cs : List C} {c : C} (h : ∀ j, j < cs.length → ¬ at3 cs j = c) : decide (c ∈ cs) = false := by
  refine decide_eq_false fun hm => ?_
  obtain ⟨j, hj, e⟩ := mem_at3 hm
  exact h j hj e
theorem has_yes {cs : List C} {c : C} {i : Nat} (hi : i < cs.length) (h : at3 cs i = c) : decide (c ∈ cs) = true := decide_eq_true (h ▸ at3_mem hi)

/-! ### The other staircase -/
def mirC (X Y Z : Int) (c : C) : C := (X - 1 - c.1, Y - 1 - c.2.1, Z - 1 - c.2.2)
theorem mir_in {X Y Z : Int} {c : C} (h : In X Y Z c) : In X Y Z (mirC X Y Z c) := by
  simp only [In, mirC] at *; omega
def othF (X Y Z : Int) (cs : List C) (c : C) : Bool := !decide (mirC X Y Z c ∈ cs)
theorem oth_cells {X Y Z : Int} {cs : List C} (hv : Valid X Y Z cs) : cellsOf X Y Z (thoseTo Y Z (fun c => !(mask Y Z cs).getLsbD (cellIx Y Z (mirC X Y Z c))) (vol X Y Z)) = (allC X Y Z).filter (othF X Y Z cs) := by
  rw [cells_those hv.box]
  refine List.filter_congr fun c hc => ?_
  have := mir_in ((allC_mem hv.box).mp hc)
  rw [(rep_mask hv).has this]; rfl

/-! ### Corners and hollows -/
def cornF (L : List C) (c : C) : Bool := decide (c ∈ L) && stairC (without L c)
def holF (L : List C) (c : C) : Bool := !decide (c ∈ L) && stairC (withC L c)
theorem corn_cells {X Y Z : Int} {cs : List C} (hv : Valid X Y Z cs) : cellsOf X Y Z (thoseTo Y Z (cornF cs) (vol X Y Z)) = cs.filter fun c => stairC (without cs c) := by
  have hX := hv.box
  rw [cells_those hX]
  refine ((allC_valid hX).filter _).ext (hv.filter _) fun c hc => ?_
  simp [List.mem_filter, (allC_mem hX).mpr hc, cornF]
theorem without_len (L : List C) (c : C) : (without L c).length ≤ L.length := List.length_filter_le _ _
theorem without_valid {X Y Z : Int} {L : List C} (h : Valid X Y Z L) (c : C) : Valid X Y Z (without L c) := h.filter _

/-! ### Directions in another order -/
def prm (p q r : Nat) (c : C) : C := (ci c p, ci c q, ci c r)
theorem prm_in {p q r : Nat} {X Y Z : Int} {c : C} (h : In X Y Z c) : In (prm p q r (X, Y, Z)).1 (prm p q r (X, Y, Z)).2.1 (prm p q r (X, Y, Z)).2.2 (prm p q r c) :=
  ⟨ciC h p, ciC h q, ciC h r⟩
theorem prm_box {p q r : Nat} {X Y Z : Int} (h : Box X Y Z) : Box (prm p q r (X, Y, Z)).1 (prm p q r (X, Y, Z)).2.1 (prm p q r (X, Y, Z)).2.2 :=
  ⟨ciS h p, ciS h q, ciS h r⟩

theorem drop_eq {X Y Z : Int} {cs : List C} (hv : Valid X Y Z cs) {f : C → Bool} : decide (thoseTo Y Z f (vol X Y Z) = mask Y Z cs) = decide ((allC X Y Z).filter f = cs) := by
  rw [decide_eq_decide]
  exact (rep_those hv.box f).eq_iff (rep_mask hv)
theorem same_box {X Y Z : Int} {a b : List C} : decide (X = X ∧ Y = Y ∧ Z = Z ∧ a = b) = decide (a = b) := by simp

theorem viewL_length (X Y Z : Int) (p : Nat) (cs : List C) : (viewL X Y Z p cs).length = linesOf X Y Z p := viewN_length X Y Z p cs cs.length
end Go.Sep
/- The least box. -/
namespace Go.Sep
open Go
set_option linter.unusedVariables false
set_option linter.unusedSimpArgs false

def minC (a b : C) : C := (min a.1 b.1, min a.2.1 b.2.1, min a.2.2 b.2.2)
def maxC (a b : C) : C := (max a.1 b.1, max a.2.1 b.2.1, max a.2.2 b.2.2)
def lowN (cs : List C) (i : Nat) : C := (cs.take i).foldl minC (at3 cs 0)
def hghN (cs : List C) (i : Nat) : C := (cs.take i).foldl maxC (at3 cs 0)
theorem lowN_zero (cs : List C) : lowN cs 0 = at3 cs 0 := rfl
theorem hghN_zero (cs : List C) : hghN cs 0 = at3 cs 0 := rfl
theorem lowN_succ {cs : List C} {i : Nat} (h : i < cs.length) : minC (lowN cs i) (at3 cs i) = lowN cs (i + 1) := by
  unfold lowN; rw [take_succ3 h, List.foldl_append]; rfl
theorem hghN_succ {cs : List C} {i : Nat} (h : i < cs.length) : maxC (hghN cs i) (at3 cs i) = hghN cs (i + 1) := by
  unfold hghN; rw [take_succ3 h, List.foldl_append]; rfl
/-- The first numbers of one cell, the others of another one. -/
def mixC (a b : C) (k : Nat) : C := (if 0 < k then b.1 else a.1, if 1 < k then b.2.1 else a.2.1, if 2 < k then b.2.2 else a.2.2)
theorem mix_zero (a b : C) : mixC a b 0 = a := rfl
theorem mix_end (a b : C) {k : Nat} (h : k = 3) : mixC a b k = b := by subst h; rfl
theorem mix_min {a c : C} {k : Nat} (hk : k < 3) : (tri (mixC a (minC a c) k)).set (0 + k * 1) (.int .i64 (min (ci (mixC a (minC a c) k) k) (ci c k))) = tri (mixC a (minC a c) (k + 1)) := by
  obtain rfl | rfl | rfl : k = 0 ∨ k = 1 ∨ k = 2 := by omega
  all_goals rfl
theorem mix_max {a c : C} {k : Nat} (hk : k < 3) : (tri (mixC a (maxC a c) k)).set (0 + k * 1) (.int .i64 (max (ci (mixC a (maxC a c) k) k) (ci c k))) = tri (mixC a (maxC a c) (k + 1)) := by
  obtain rfl | rfl | rfl : k = 0 ∨ k = 1 ∨ k = 2 := by omega
  all_goals rfl
theorem lowN_bd {X Y Z : Int} {cs : List C} (hv : Valid X Y Z cs) (hne : 0 < cs.length) : ∀ i, i ≤ cs.length → In X Y Z (lowN cs i) ∧ ∀ k, k < i → leC (lowN cs i) (at3 cs k) = true
  | 0, _ => ⟨hv.inn _ (at3_mem hne), fun k hk => absurd hk (by omega)⟩
  | i + 1, h => by
    obtain ⟨h1, h2⟩ := lowN_bd hv hne i (by omega)
    have hc := hv.inn _ (at3_mem (show i < cs.length by omega))
    rw [← lowN_succ (by omega)]
    simp only [In, minC] at *
    refine ⟨by omega, fun k hk => ?_⟩
    rcases Nat.lt_or_ge k i with g | g
    · have := h2 k g
      simp only [leC, Bool.and_eq_true, decide_eq_true_eq] at *
      omega
    · obtain rfl : k = i := by omega
      simp only [leC, Bool.and_eq_true, decide_eq_true_eq]
      omega
theorem hghN_bd {X Y Z : Int} {cs : List C} (hv : Valid X Y Z cs) (hne : 0 < cs.length) : ∀ i, i ≤ cs.length → In X Y Z (hghN cs i) ∧ ∀ k, k < i → leC (at3 cs k) (hghN cs i) = true
  | 0, _ => ⟨hv.inn _ (at3_mem hne), fun k hk => absurd hk (by omega)⟩
  | i + 1, h => by
    obtain ⟨h1, h2⟩ := hghN_bd hv hne i (by omega)
    have hc := hv.inn _ (at3_mem (show i < cs.length by omega))
    rw [← hghN_succ (by omega)]
    simp only [In, maxC] at *
    refine ⟨by omega, fun k hk => ?_⟩
    rcases Nat.lt_or_ge k i with g | g
    · have := h2 k g
      simp only [leC, Bool.and_eq_true, decide_eq_true_eq] at *
      omega
    · obtain rfl : k = i := by omega
      simp only [leC, Bool.and_eq_true, decide_eq_true_eq]
      omega
def negC (c : C) : C := (0 - c.1, 0 - c.2.1, 0 - c.2.2)
def cropS (lo hi : C) : C := (hi.1 - lo.1 + 1, hi.2.1 - lo.2.1 + 1, hi.2.2 - lo.2.2 + 1)
theorem crop_sides (lo hi : C) : addC (addC hi (negC lo)) (1, 1, 1) = cropS lo hi := by
  simp only [addC, negC, cropS, Prod.mk.injEq]; omega
theorem crop_box {X Y Z : Int} {cs : List C} (hv : Valid X Y Z cs) (hne : 0 < cs.length) : Box (cropS (lowN cs cs.length) (hghN cs cs.length)).1 (cropS (lowN cs cs.length) (hghN cs cs.length)).2.1 (cropS (lowN cs cs.length) (hghN cs cs.length)).2.2 := by
  obtain ⟨h1, h2⟩ := lowN_bd hv hne _ (Nat.le_refl _)
  obtain ⟨h3, h4⟩ := hghN_bd hv hne _ (Nat.le_refl _)
  have e1 := h2 0 hne
  have e2 := h4 0 hne
  have hX := hv.box
  simp only [leC, Bool.and_eq_true, decide_eq_true_eq, In, Box, cropS] at *
  omega
theorem crop_in {X Y Z : Int} {cs : List C} (hv : Valid X Y Z cs) (hne : 0 < cs.length) : ∀ c ∈ cs, In (cropS (lowN cs cs.length) (hghN cs cs.length)).1 (cropS (lowN cs cs.length) (hghN cs cs.length)).2.1 (cropS (lowN cs cs.length) (hghN cs cs.length)).2.2 (addC c (negC (lowN cs cs.length))) := by
  intro c hc
  obtain ⟨j, hj, rfl⟩ := mem_at3 hc
  have e1 := (lowN_bd hv hne _ (Nat.le_refl _)).2 j hj
  have e2 := (hghN_bd hv hne _ (Nat.le_refl _)).2 j hj
  simp only [leC, Bool.and_eq_true, decide_eq_true_eq, In, cropS, addC, negC] at *
  omega
theorem neg_small {X Y Z : Int} {c : C} (hX : Box X Y Z) (h : In X Y Z c) : Small (negC c) := by
  simp only [In, Small, negC, Box] at *; omega
end Go.Sep
/- Ends of bodies that make, or write to, several blocks; drawn calls that make three. -/
namespace Go.Sep
open Go
set_option linter.unusedVariables false
set_option linter.unusedSimpArgs false

variable {P : Program} {N : Nat} {s : St}
/-- Several new names. -/
def nm (n k : Nat) (f : Nat → Nat) : Nat → Nat := fun x => if x < n then x else if x < n + k then f (x - n) else x
theorem Ends.gen {fn : Func} {H H' : Heap} {n : Nat} {v v' : Value} (k : Nat) (f : Nat → Nat) (bs : Nat → List Value)
    (hH' : ∀ x b, H' x = some b → x < n ∧ H x = some b ∨ n ≤ x ∧ x < n + k ∧ b = .cells false (bs (x - n)))
    (hle : ∀ x b, x < n → H x = some b → s.H x = some b) (hf : ∀ j, j < k → n ≤ f j) (hinj : ∀ i j, i < k → j < k → i ≠ j → f i ≠ f j)
    (hb : ∀ j, j < k → s.H (f j) = some (.cells false ((bs j).map (renC (nm n k f))))) (hlt : ∀ j, j < k → (bs j).all (ltC (n + k)) = true)
    (hv : ltT (n + k) v = true) (hres : resOf P s fn.results.toList = some v') (he : v' = renT (nm n k f) v) : Ends P fn H n s v H' (n + k) := by
  subst he
  refine ⟨nm n k f, fun x hx => by simp [nm, hx], hres, hv, fun x b hx => ?_, fun x y hx hy hxy => ?_⟩
  · rcases hH' x b hx with ⟨h1, h2⟩ | ⟨h1, h2, h3⟩
    · exact .inl ⟨h1, h2, hle x b h1 h2⟩
    · refine .inr ⟨h2, ?_⟩
      have e : nm n k f x = f (x - n) := by simp only [nm]; rw [if_neg (by omega), if_pos h2]
      subst h3
      rw [e, hb _ (by omega)]
      exact ⟨rfl, rfl, hlt _ (by omega)⟩
  · simp only [nm]
    by_cases h1 : x < n <;> by_cases h2 : y < n
    · rw [if_pos h1, if_pos h2]; exact hxy
    · rw [if_pos h1, if_neg h2, if_pos hy]; have := hf (y - n) (by omega); omega
    · rw [if_neg h1, if_pos hx, if_pos h2]; have := hf (x - n) (by omega); omega
    · rw [if_neg h1, if_pos hx, if_neg h2, if_pos hy]; exact hinj _ _ (by omega) (by omega) (by omega)
def pick3 {α : Type} (a b c : α) : Nat → α
  | 0 => a
  | 1 => b
  | _ => c
theorem Ends.v3 {fn : Func} {H : Heap} {n : Nat} {v v' : Value} (m0 m1 m2 : Nat) {c0 c1 c2 d0 d1 d2 : List Value} (hm : n ≤ m0 ∧ n ≤ m1 ∧ n ≤ m2 ∧ m0 ≠ m1 ∧ m0 ≠ m2 ∧ m1 ≠ m2)
    (hle : ∀ x b, x < n → H x = some b → s.H x = some b) (hH : ∀ x, n ≤ x → H x = none) (hb0 : s.H m0 = some (.cells false d0)) (hb1 : s.H m1 = some (.cells false d1)) (hb2 : s.H m2 = some (.cells false d2))
    (hp : c0.all plainA = true ∧ c1.all plainA = true ∧ c2.all plainA = true) (hv : ltT (n + 3) v = true) (hres : resOf P s fn.results.toList = some v')
    (hd : d0 = c0 ∧ d1 = c1 ∧ d2 = c2) (he : v' = renT (nm n 3 (pick3 m0 m1 m2)) v) : Ends P fn H n s v (((H.set n (.cells false c0)).set (n + 1) (.cells false c1)).set (n + 1 + 1) (.cells false c2)) (n + 1 + 1 + 1) := by
  obtain ⟨rfl, rfl, rfl⟩ := hd
  refine Ends.gen 3 (pick3 m0 m1 m2) (pick3 d0 d1 d2) (fun x b hx => ?_) hle (fun j hj => ?_) (fun i j hi hj hij => ?_) (fun j hj => ?_) (fun j hj => ?_) hv hres he
  · by_cases e2 : x = n + 1 + 1
    · subst e2
      rw [Heap.set_same] at hx
      refine .inr ⟨by omega, by omega, ?_⟩
      rw [show n + 1 + 1 - n = 2 by omega]; exact (Option.some.inj hx).symm
    · rw [Heap.set_ne _ _ e2] at hx
      by_cases e1 : x = n + 1
      · subst e1
        rw [Heap.set_same] at hx
        refine .inr ⟨by omega, by omega, ?_⟩
        rw [show n + 1 - n = 1 by omega]; exact (Option.some.inj hx).symm
      · rw [Heap.set_ne _ _ e1] at hx
        by_cases e0 : x = n
        · subst e0
          rw [Heap.set_same] at hx
          refine .inr ⟨by omega, by omega, ?_⟩
          rw [Nat.sub_self]; exact (Option.some.inj hx).symm
        · rw [Heap.set_ne _ _ e0] at hx
          refine .inl ⟨?_, hx⟩
          rcases Nat.lt_or_ge x n with g | g
          · exact g
          · rw [hH x g] at hx; simp at hx
  · obtain rfl | rfl | rfl : j = 0 ∨ j = 1 ∨ j = 2 := by omega
    · exact hm.1
    · exact hm.2.1
    · exact hm.2.2.1
  · obtain ⟨_, _, _, h1, h2, h3⟩ := hm
    obtain rfl | rfl | rfl : i = 0 ∨ i = 1 ∨ i = 2 := by omega
    all_goals
      obtain rfl | rfl | rfl : j = 0 ∨ j = 1 ∨ j = 2 := by omega
      all_goals first | (exact absurd rfl hij) | (simp only [pick3]; omega)
  · obtain rfl | rfl | rfl : j = 0 ∨ j = 1 ∨ j = 2 := by omega
    · exact hb0.trans (congrArg some (congrArg (Blk.cells false) (plain_ren hp.1 0).1))
    · exact hb1.trans (congrArg some (congrArg (Blk.cells false) (plain_ren hp.2.1 0).1))
    · exact hb2.trans (congrArg some (congrArg (Blk.cells false) (plain_ren hp.2.2 0).1))
  · obtain rfl | rfl | rfl : j = 0 ∨ j = 1 ∨ j = 2 := by omega
    · exact (plain_ren (ρ := id) hp.1 _).2
    · exact (plain_ren (ρ := id) hp.2.1 _).2
    · exact (plain_ren (ρ := id) hp.2.2 _).2
/-- Three old blocks written anew. -/
theorem Ends.vU3 {fn : Func} {H : Heap} {n b0 b1 b2 : Nat} {v v' : Value} {c0 c1 c2 d0 d1 d2 : List Value} (hb : b0 < n ∧ b1 < n ∧ b2 < n ∧ b0 ≠ b1 ∧ b0 ≠ b2 ∧ b1 ≠ b2) (hle : OldBut [b0, b1, b2] n H s.H) (hH : ∀ x, n ≤ x → H x = none)
    (h0 : s.H b0 = some (.cells false d0)) (h1 : s.H b1 = some (.cells false d1)) (h2 : s.H b2 = some (.cells false d2)) (hp : c0.all plainA = true ∧ c1.all plainA = true ∧ c2.all plainA = true)
    (hv : ltT n v = true) (hres : resOf P s fn.results.toList = some v') (hd : d0 = c0 ∧ d1 = c1 ∧ d2 = c2) (he : v' = v) : Ends P fn H n s v (((H.set b0 (.cells false c0)).set b1 (.cells false c1)).set b2 (.cells false c2)) n := by
  obtain ⟨rfl, rfl, rfl⟩ := hd
  subst he
  refine ⟨id, fun _ _ => rfl, by rw [hres]; congr 1; exact (renT_id _).symm, hv, fun x c hx => ?_, fun x y _ _ h => h⟩
  by_cases e2 : x = b2
  · subst e2
    rw [Heap.set_same] at hx
    obtain rfl := Option.some.inj hx
    refine .inr ⟨hb.2.2.1, ?_⟩
    simp only [id, h2]
    exact ⟨rfl, plain_ren hp.2.2 _⟩
  · rw [Heap.set_ne _ _ e2] at hx
    by_cases e1 : x = b1
    · subst e1
      rw [Heap.set_same] at hx
      obtain rfl := Option.some.inj hx
      refine .inr ⟨hb.2.1, ?_⟩
      simp only [id, h1]
      exact ⟨rfl, plain_ren hp.2.1 _⟩
    · rw [Heap.set_ne _ _ e1] at hx
      by_cases e0 : x = b0
      · subst e0
        rw [Heap.set_same] at hx
        obtain rfl := Option.some.inj hx
        refine .inr ⟨hb.1, ?_⟩
        simp only [id, h0]
        exact ⟨rfl, plain_ren hp.1 _⟩
      · rw [Heap.set_ne _ _ e0] at hx
        have hlt : x < n := by
          rcases Nat.lt_or_ge x n with g | g
          · exact g
          · rw [hH x g] at hx; simp at hx
        exact .inl ⟨hlt, hx, hle x c hlt (by simp [e0, e1, e2]) hx⟩
section drawn3
variable {ops : Array Oper} {r : List Oper} {K : St → Prop} {ts : Temps} {H : Heap} {n : Nat} {t : Tmp} {op : Op} {ty : TypeId} {pos : String} {after : Array Edge} {gd : Option (Nat × Bool)} {v : Value} {m j : Nat} {ms : List Nat} {acc : List (Nat × Foot)}
/-- A drawn call that makes three blocks. -/
theorem dC3 {f : FuncId} {args : List Value} {c0 c1 c2 : Blk} (hd : okDst N (some t) = true) (hw : wantC ops ⟨some t, op, ty, pos, after, gd⟩ ts = some true) (hkd : kindOf op ts = .eff 0 0 []) (hc : calleeOf ts op = some (f, args))
    (hf : Fn P f args (hide (hidden m acc) n H) n v ((((hide (hidden m acc) n H).set n c0).set (n + 1) c1).set (n + 1 + 1) c2) (n + 1 + 1 + 1)) (ha : accOk m (.eff n (n + 1 + 1 + 1) []) acc) (hu : n ∉ hidden m acc ∧ n + 1 ∉ hidden m acc ∧ n + 1 + 1 ∉ hidden m acc)
    (hk : wopsD P N ops r ms (j + 1) ((j, .eff n (n + 1 + 1 + 1) []) :: acc) ⟨(t, v) :: ts, ((H.set n c0).set (n + 1) c1).set (n + 1 + 1) c2, n + 1 + 1 + 1⟩ K) : wopsD P N ops (⟨some t, op, ty, pos, after, gd⟩ :: r) (m :: ms) j acc ⟨ts, H, n⟩ K := by
  simp only [wopsD, hd, hw, hkd, putT]
  refine ⟨trivial, [], by simp, ?_⟩
  simp only [stepOp, hc]
  refine ⟨v, _, n + 1 + 1 + 1, hf, by omega, fun y hy _ hu => by rw [Heap.set_ne _ _ (by omega), Heap.set_ne _ _ (by omega), Heap.set_ne _ _ (by omega)]; unfold hide; rw [if_pos ⟨hy, hu⟩], ha, ?_⟩
  have : unhide (hidden m acc) (n + 1 + 1 + 1) H ((((hide (hidden m acc) n H).set n c0).set (n + 1) c1).set (n + 1 + 1) c2) = ((H.set n c0).set (n + 1) c1).set (n + 1 + 1) c2 := by
    funext y
    unfold unhide
    by_cases e2 : y = n + 1 + 1
    · subst e2; rw [if_pos ⟨Nat.lt_succ_self _, hu.2.2⟩, Heap.set_same, Heap.set_same]
    · rw [Heap.set_ne _ _ e2, Heap.set_ne _ _ e2]
      by_cases e1 : y = n + 1
      · subst e1; rw [if_pos ⟨by omega, hu.2.1⟩, Heap.set_same, Heap.set_same]
      · rw [Heap.set_ne _ _ e1, Heap.set_ne _ _ e1]
        by_cases e0 : y = n
        · subst e0; rw [if_pos ⟨by omega, hu.1⟩, Heap.set_same, Heap.set_same]
        · rw [Heap.set_ne _ _ e0, Heap.set_ne _ _ e0]
          split
          · rename_i hh
            unfold hide
            rw [if_pos ⟨by omega, hh.2⟩]
          · rfl
  rw [this]; exact hk
end drawn3
end Go.Sep
/- Shadows. -/
namespace Go.Sep
open Go
set_option linter.unusedVariables false
set_option linter.unusedSimpArgs false

/-! ### Lists of ones -/
def onesL (zs : List Int) : List Int := zs.map fun z => min z 1
def onesN (zs : List Int) (i : Nat) : List Int := onesL (zs.take i) ++ zs.drop i
theorem onesN_zero (zs : List Int) : onesN zs 0 = zs := by simp [onesN, onesL]
theorem onesN_all (zs : List Int) {i : Nat} (h : i = zs.length) : onesN zs i = onesL zs := by subst h; simp [onesN]
theorem onesN_length (zs : List Int) (i : Nat) : (onesN zs i).length = zs.length := by simp [onesN, onesL]; omega
theorem onesL_length (zs : List Int) : (onesL zs).length = zs.length := by simp [onesL]
theorem onesN_at {zs : List Int} {i : Nat} (h : i < zs.length) : at1 (onesN zs i) i = at1 zs i := by
  have h1 : (onesL (zs.take i)).length = i := by simp [onesL]; omega
  simp only [at1, List.getD, onesN]
  rw [List.getElem?_append_right (by omega), h1, Nat.sub_self, List.getElem?_drop]
  simp
theorem onesN_set {zs : List Int} {i : Nat} (h : i < zs.length) : (ints (onesN zs i)).set (0 + i * 1) (.int .i64 (min (at1 (onesN zs i) i) 1)) = ints (onesN zs (i + 1)) := by
  rw [ints_set, onesN_at h]
  congr 1
  have h1 : (onesL (zs.take i)).length = i := by simp [onesL]; omega
  unfold onesN
  rw [List.set_append_right _ _ (by omega), h1, Nat.sub_self, List.drop_eq_getElem_cons h, List.set_cons_zero, take_succ1 h]
  simp only [onesL, List.map_append, List.map_cons, List.map_nil, List.append_assoc, List.singleton_append]
theorem onesL_snoc {zs : List Int} {i : Nat} (h : i < zs.length) : onesL (zs.take (i + 1)) = onesL (zs.take i) ++ [min (at1 zs i) 1] := by
  rw [take_succ1 h]; simp [onesL]

/-! ### Three lists by direction -/
def upd (Q : Nat → Nat) (d q : Nat) : Nat → Nat := fun k => if k = d then q else Q k
theorem upd_same (Q : Nat → Nat) (d q : Nat) : upd Q d q d = q := if_pos rfl
theorem upd_ne {Q : Nat → Nat} {d q k : Nat} (h : k ≠ d) : upd Q d q k = Q k := if_neg h
def shV (Q : Nat → Nat) (ln : Nat → Nat) (d k : Nat) : Value := if k < d then .slice (some ⟨Q k, 0, none⟩) (ln k) 1 else .slice none 0 0
def shL (Q : Nat → Nat) (ln : Nat → Nat) (d : Nat) : List Value := [shV Q ln d 0, shV Q ln d 1, shV Q ln d 2]
theorem shL_get {Q ln : Nat → Nat} {d k : Nat} (hk : k < 3) (h : k < d) : (shL Q ln d)[0 + k * 1]? = some (.slice (some ⟨Q k, 0, none⟩) (ln k) 1) := by
  obtain rfl | rfl | rfl : k = 0 ∨ k = 1 ∨ k = 2 := by omega
  all_goals simp [shL, shV, h]
theorem shL_at {Q ln : Nat → Nat} {d q : Nat} (hd : d < 3) : (shL (upd Q d q) ln (d + 1))[0 + d * 1]? = some (.slice (some ⟨q, 0, none⟩) (ln d) 1) := by
  rw [shL_get hd (by omega), upd_same]
theorem shL_set {Q ln : Nat → Nat} {d q : Nat} (hd : d < 3) : (shL Q ln d).set (0 + d * 1) (.slice (some ⟨q, 0, none⟩) (ln d) 1) = shL (upd Q d q) ln (d + 1) := by
  obtain rfl | rfl | rfl : d = 0 ∨ d = 1 ∨ d = 2 := by omega
  all_goals simp [shL, shV, upd]
abbrev lnV (X Y Z : Int) (L : List C) : Nat → Nat := fun k => (viewL X Y Z k L).length
theorem nm0 {n : Nat} {f : Nat → Nat} : nm n 3 f n = f 0 := by simp [nm]
theorem nm1 {n : Nat} {f : Nat → Nat} : nm n 3 f (n + 1) = f 1 := by
  simp only [nm]; rw [if_neg (by omega), if_pos (by omega), show n + 1 - n = 1 by omega]
theorem nm2 {n : Nat} {f : Nat → Nat} : nm n 3 f (n + 1 + 1) = f 2 := by
  simp only [nm]; rw [if_neg (by omega), if_pos (by omega), show n + 1 + 1 - n = 2 by omega]
end Go.Sep
/- Lines: how many cubes they have, how many bare faces. -/
namespace Go.Sep
open Go
set_option linter.unusedVariables false
set_option linter.unusedSimpArgs false

/-! ### A line has no more cubes than cells -/
theorem line_same {X Y Z : Int} {p : Nat} {a b : C} (hX : Box X Y Z) (ha : In X Y Z a) (hb : In X Y Z b) (h : lineIx X Y Z p a = lineIx X Y Z p b) : ci a (o1 p) = ci b (o1 p) ∧ ci a (o2 p) = ci b (o2 p) := by
  have e1 := (line_bd hX p ha).1
  have e2 := (line_bd hX p hb).1
  rw [h, ← e2] at e1
  have h1 := ciC ha (o2 p)
  have h2 := ciC hb (o2 p)
  have h3 := ciS hX (o2 p)
  generalize ci (X, Y, Z) (o2 p) = S at *
  obtain rfl | rfl | rfl | rfl : S = 1 ∨ S = 2 ∨ S = 3 ∨ S = 4 := by omega
  all_goals omega
theorem before_line {a b : C} {p : Nat} (hp : p < 3) (h1 : ci a (o1 p) = ci b (o1 p)) (h2 : ci a (o2 p) = ci b (o2 p)) (hb : before a b = true) : ci a p < ci b p := by
  obtain ⟨a1, a2, a3⟩ := a
  obtain ⟨b1, b2, b3⟩ := b
  obtain rfl | rfl | rfl : p = 0 ∨ p = 1 ∨ p = 2 := by omega
  all_goals
    simp [ci, o1, o2] at h1 h2
    simp [before, h1, h2] at hb
    simp [ci]
    first | exact hb | exact hb.2 | omega
theorem view_le {X Y Z : Int} {p : Nat} {cs : List C} (hp : p < 3) (hv : Valid X Y Z cs) {j : Nat} : ∀ i, i ≤ cs.length → ∀ b : Int, 0 ≤ b → (∀ k, k < i → lineIx X Y Z p (at3 cs k) = j → ci (at3 cs k) p < b) → at1 (viewN X Y Z p cs i) j ≤ b
  | 0, _, b, hb, _ => by rw [viewN_zero, at1_replicate]; exact hb
  | i + 1, h, b, hb, hk => by
    rw [← viewN_succ (by omega), viewStep, at1_set]
    split
    · rename_i e
      rw [e.1]
      have hi := hv.inn _ (at3_mem (show i < cs.length by omega))
      have ih := view_le hp hv (j := j) i (by omega) (ci (at3 cs i) p) (ciC hi p).1 fun k hk' e' => by
        have hik := hv.inn _ (at3_mem (show k < cs.length by omega))
        have h1 := ix_mono hv hk' (show i < cs.length by omega)
        rw [← before_ix hv.box hik hi] at h1
        obtain ⟨h2, h3⟩ := line_same hv.box hik hi (e'.trans e.1.symm)
        exact before_line hp h2 h3 h1
      have := hk i (by omega) e.1
      omega
    · exact view_le hp hv i (by omega) b hb fun k hk' => hk k (by omega)
theorem view_bd {X Y Z : Int} {p : Nat} {cs : List C} (hp : p < 3) (hv : Valid X Y Z cs) (j : Nat) : 0 ≤ at1 (viewL X Y Z p cs) j ∧ at1 (viewL X Y Z p cs) j ≤ ci (X, Y, Z) p :=
  ⟨(viewN_bd (p := p) (cs := cs) cs.length (Nat.le_refl _) j).1, view_le hp hv _ (Nat.le_refl _) _ (by have := ciS hv.box p; omega) fun k hk _ => (ciC (hv.inn _ (at3_mem hk)) p).2⟩

/-! ### Neighbours in a direction -/
/-- A cell with a number added in a direction. -/
def movC (c : C) (p : Nat) (d : Int) : C := addC c (if p = 0 then (d, 0, 0) else if p = 1 then (0, d, 0) else (0, 0, d))
theorem mov_tri {c : C} {p : Nat} {d : Int} (hp : p < 3) : (tri c).set (0 + p * 1) (.int .i64 (ci c p + d)) = tri (movC c p d) := by
  obtain ⟨c1, c2, c3⟩ := c
  obtain rfl | rfl | rfl : p = 0 ∨ p = 1 ∨ p = 2 := by omega
  all_goals simp [tri, movC, addC, ci]
theorem mov_line {X Y Z : Int} {c : C} {p : Nat} {d : Int} (hp : p < 3) : lineIx X Y Z p (movC c p d) = lineIx X Y Z p c := by
  obtain ⟨c1, c2, c3⟩ := c
  obtain rfl | rfl | rfl : p = 0 ∨ p = 1 ∨ p = 2 := by omega
  all_goals simp [lineIx, movC, addC, ci, o1, o2]
theorem mov_back {c : C} {p : Nat} {d : Int} : movC (movC c p d) p (-d) = c := by
  obtain ⟨c1, c2, c3⟩ := c
  unfold movC addC
  split
  · simp; omega
  · split
    · simp; omega
    · simp; omega
theorem mov_before (a b : C) (p : Nat) (d : Int) : before (movC a p d) (movC b p d) = before a b := before_add a b _
/-- Cubes with a cube behind them, and cubes with a cube ahead of them: as many in each line. -/
theorem mov_filter {X Y Z : Int} {cs : List C} (hv : Valid X Y Z cs) {p j : Nat} (hp : p < 3) :
    ((cs.filter fun c => decide (lineIx X Y Z p c = j) && decide (movC c p 1 ∈ cs)).map fun c => movC c p 1) = cs.filter fun c => decide (lineIx X Y Z p c = j) && decide (movC c p (-1) ∈ cs) := by
  have hX := hv.box
  have hf := hv.filter fun c => decide (lineIx X Y Z p c = j) && decide (movC c p 1 ∈ cs)
  have hm : Valid X Y Z ((cs.filter fun c => decide (lineIx X Y Z p c = j) && decide (movC c p 1 ∈ cs)).map fun c => movC c p 1) := by
    have := valid_add hf hX hX (d := if p = 0 then (1, 0, 0) else if p = 1 then (0, 1, 0) else (0, 0, 1)) (fun c hc => by
      have := (List.mem_filter.mp hc).2
      simp only [Bool.and_eq_true, decide_eq_true_eq] at this
      exact hv.inn _ this.2)
    exact this
  refine hm.ext (hv.filter _) fun c hc => ?_
  simp only [List.mem_map, List.mem_filter, Bool.and_eq_true, decide_eq_true_eq]
  constructor
  · rintro ⟨d, ⟨h1, h2, h3⟩, rfl⟩
    exact ⟨h3, by rw [mov_line hp]; exact h2, by rw [mov_back]; exact h1⟩
  · rintro ⟨h1, h2, h3⟩
    refine ⟨movC c p (-1), ⟨h3, by rw [mov_line hp]; exact h2, ?_⟩, ?_⟩
    · have := mov_back (c := c) (p := p) (d := -1); simp only [Int.neg_neg] at this; rw [this]; exact h1
    · have := mov_back (c := c) (p := p) (d := -1); simp only [Int.neg_neg] at this; exact this
/-- One more at a place. -/
def incL (o : List Int) (j : Nat) (z : Int) : List Int := o.set j (at1 o j + z)
theorem incL_length (o : List Int) (j : Nat) (z : Int) : (incL o j z).length = o.length := by simp [incL]
theorem incL_at {o : List Int} {j : Nat} {z : Int} (hj : j < o.length) (k : Nat) : at1 (incL o j z) k = if j = k then at1 o k + z else at1 o k := by
  unfold incL
  rw [at1_set]
  by_cases h : j = k
  · subst h; simp [hj]
  · simp [h]
/-- What a cube adds to the bare faces of its line: the program's way. -/
def barStep (X Y Z : Int) (p : Nat) (cs : List C) (o : List Int) (c : C) : List Int :=
  let o' := if decide (movC c p (-1) ∈ cs) then o else incL o (lineIx X Y Z p c) 1
  if decide (movC c p 1 ∈ cs) then o' else incL o' (lineIx X Y Z p c) 1
/-- The reference's way. -/
def strStep (X Y Z : Int) (p : Nat) (cs : List C) (o : List Int) (c : C) : List Int := if decide (movC c p 1 ∈ cs) then o else incL o (lineIx X Y Z p c) 2
def barN (X Y Z : Int) (p : Nat) (cs : List C) (i : Nat) : List Int := (cs.take i).foldl (barStep X Y Z p cs) (List.replicate (linesOf X Y Z p) 0)
def strN (X Y Z : Int) (p : Nat) (cs : List C) (i : Nat) : List Int := (cs.take i).foldl (strStep X Y Z p cs) (List.replicate (linesOf X Y Z p) 0)
theorem barN_zero (X Y Z : Int) (p : Nat) (cs : List C) : barN X Y Z p cs 0 = List.replicate (linesOf X Y Z p) 0 := by simp [barN]
theorem strN_zero (X Y Z : Int) (p : Nat) (cs : List C) : strN X Y Z p cs 0 = List.replicate (linesOf X Y Z p) 0 := by simp [strN]
theorem barN_succ {X Y Z : Int} {p : Nat} {cs : List C} {i : Nat} (h : i < cs.length) : barN X Y Z p cs (i + 1) = barStep X Y Z p cs (barN X Y Z p cs i) (at3 cs i) := by
  unfold barN; rw [take_succ3 h, List.foldl_append]; rfl
theorem strN_succ {X Y Z : Int} {p : Nat} {cs : List C} {i : Nat} (h : i < cs.length) : strN X Y Z p cs (i + 1) = strStep X Y Z p cs (strN X Y Z p cs i) (at3 cs i) := by
  unfold strN; rw [take_succ3 h, List.foldl_append]; rfl
theorem barStep_length (X Y Z : Int) (p : Nat) (cs : List C) (o : List Int) (c : C) : (barStep X Y Z p cs o c).length = o.length := by
  unfold barStep; simp only; split <;> split <;> simp [incL_length]
theorem strStep_length (X Y Z : Int) (p : Nat) (cs : List C) (o : List Int) (c : C) : (strStep X Y Z p cs o c).length = o.length := by
  unfold strStep; split <;> simp [incL_length]
theorem barN_length (X Y Z : Int) (p : Nat) (cs : List C) : ∀ i, i ≤ cs.length → (barN X Y Z p cs i).length = linesOf X Y Z p
  | 0, _ => by rw [barN_zero]; simp
  | i + 1, h => by rw [barN_succ (by omega), barStep_length]; exact barN_length X Y Z p cs i (by omega)
theorem strN_length (X Y Z : Int) (p : Nat) (cs : List C) : ∀ i, i ≤ cs.length → (strN X Y Z p cs i).length = linesOf X Y Z p
  | 0, _ => by rw [strN_zero]; simp
  | i + 1, h => by rw [strN_succ (by omega), strStep_length]; exact strN_length X Y Z p cs i (by omega)
/-- How many of the first cubes lie in a line and have something. -/
def cntN (X Y Z : Int) (p : Nat) (cs : List C) (P : C → Bool) (i j : Nat) : Int := ((((cs.take i).filter fun c => decide (lineIx X Y Z p c = j) && P c).length : Nat) : Int)
theorem cntN_succ {X Y Z : Int} {p : Nat} {cs : List C} {P : C → Bool} {i j : Nat} (h : i < cs.length) :
    cntN X Y Z p cs P (i + 1) j = cntN X Y Z p cs P i j + if lineIx X Y Z p (at3 cs i) = j then (if P (at3 cs i) then 1 else 0) else 0 := by
  unfold cntN
  rw [take_succ3 h, List.filter_append, List.length_append]
  simp only [List.filter_cons, List.filter_nil]
  by_cases h1 : lineIx X Y Z p (at3 cs i) = j <;> cases h2 : P (at3 cs i) <;> simp only [h1, h2, decide_true, decide_false, Bool.and_true, Bool.and_false, Bool.true_and, Bool.false_and, if_true, if_false, Bool.false_eq_true, List.length_cons, List.length_nil] <;> omega
theorem barN_at {X Y Z : Int} {p : Nat} {cs : List C} (hv : Valid X Y Z cs) (j : Nat) : ∀ i, i ≤ cs.length → at1 (barN X Y Z p cs i) j = cntN X Y Z p cs (fun c => !decide (movC c p (-1) ∈ cs)) i j + cntN X Y Z p cs (fun c => !decide (movC c p 1 ∈ cs)) i j
  | 0, _ => by rw [barN_zero, at1_replicate]; simp [cntN]
  | i + 1, h => by
    have ih := barN_at (p := p) hv j i (by omega)
    have hl := barN_length X Y Z p cs i (by omega)
    have hx := (line_bd hv.box p (hv.inn _ (at3_mem (show i < cs.length by omega)))).2
    rw [barN_succ (by omega), cntN_succ (by omega), cntN_succ (by omega)]
    unfold barStep
    simp only
    cases h1 : decide (movC (at3 cs i) p (-1) ∈ cs) <;> cases h2 : decide (movC (at3 cs i) p 1 ∈ cs) <;> simp only [if_true, if_false, Bool.false_eq_true, Bool.not_true, Bool.not_false]
    · rw [incL_at (by rw [incL_length]; omega), incL_at (by omega)]; split <;> omega
    · rw [incL_at (by omega)]; split <;> omega
    · rw [incL_at (by omega)]; split <;> omega
    · split <;> omega
theorem strN_at {X Y Z : Int} {p : Nat} {cs : List C} (hv : Valid X Y Z cs) (j : Nat) : ∀ i, i ≤ cs.length → at1 (strN X Y Z p cs i) j = 2 * cntN X Y Z p cs (fun c => !decide (movC c p 1 ∈ cs)) i j
  | 0, _ => by rw [strN_zero, at1_replicate]; simp [cntN]
  | i + 1, h => by
    have ih := strN_at (p := p) hv j i (by omega)
    have hl := strN_length X Y Z p cs i (by omega)
    have hx := (line_bd hv.box p (hv.inn _ (at3_mem (show i < cs.length by omega)))).2
    rw [strN_succ (by omega), cntN_succ (by omega)]
    unfold strStep
    cases h2 : decide (movC (at3 cs i) p 1 ∈ cs) <;> simp only [if_true, if_false, Bool.false_eq_true, Bool.not_true, Bool.not_false]
    · rw [incL_at (by omega)]; split <;> omega
    · split <;> omega
theorem cnt_split {X Y Z : Int} {p : Nat} {cs : List C} (P : C → Bool) (i j : Nat) : cntN X Y Z p cs (fun c => !P c) i j = ((((cs.take i).filter fun c => decide (lineIx X Y Z p c = j)).length : Nat) : Int) - cntN X Y Z p cs P i j := by
  unfold cntN
  generalize cs.take i = l
  dsimp only
  induction l with
  | nil => simp
  | cons c l ih =>
    simp only [List.filter_cons]
    by_cases h1 : lineIx X Y Z p c = j <;> cases h2 : P c <;> simp only [h1, h2, decide_true, decide_false, Bool.and_true, Bool.and_false, Bool.true_and, Bool.false_and, Bool.not_true, Bool.not_false, if_true, if_false, Bool.false_eq_true, List.length_cons] <;> omega
theorem bar_str {X Y Z : Int} {p : Nat} {cs : List C} (hv : Valid X Y Z cs) (hp : p < 3) : barN X Y Z p cs cs.length = strN X Y Z p cs cs.length := by
  have hl := barN_length X Y Z p cs _ (Nat.le_refl _)
  have hl2 := strN_length X Y Z p cs _ (Nat.le_refl _)
  refine ext1 (by omega) fun j hj => ?_
  rw [barN_at hv j _ (Nat.le_refl _), strN_at hv j _ (Nat.le_refl _), cnt_split, cnt_split]
  have := congrArg List.length (mov_filter hv (j := j) hp)
  rw [List.length_map] at this
  unfold cntN
  rw [List.take_length]
  dsimp only
  omega
theorem barN_bd {X Y Z : Int} {p : Nat} {cs : List C} (hv : Valid X Y Z cs) (j i : Nat) (hi : i ≤ cs.length) : 0 ≤ at1 (barN X Y Z p cs i) j ∧ at1 (barN X Y Z p cs i) j ≤ 2 * (cs.length : Int) := by
  rw [barN_at hv j i hi]
  have h1 : ∀ P : C → Bool, ((cs.take i).filter fun c => decide (lineIx X Y Z p c = j) && P c).length ≤ cs.length := fun P => Nat.le_trans (List.length_filter_le _ _) (by simp; omega)
  have h2 := h1 fun c => !decide (movC c p (-1) ∈ cs)
  have h3 := h1 fun c => !decide (movC c p 1 ∈ cs)
  unfold cntN
  dsimp only at *
  omega
theorem strN_bd {X Y Z : Int} {p : Nat} {cs : List C} (hv : Valid X Y Z cs) (j i : Nat) (hi : i ≤ cs.length) : 0 ≤ at1 (strN X Y Z p cs i) j ∧ at1 (strN X Y Z p cs i) j ≤ 2 * (cs.length : Int) := by
  rw [strN_at hv j i hi]
  have h1 : ∀ P : C → Bool, ((cs.take i).filter fun c => decide (lineIx X Y Z p c = j) && P c).length ≤ cs.length := fun P => Nat.le_trans (List.length_filter_le _ _) (by simp; omega)
  have h3 := h1 fun c => !decide (movC c p 1 ∈ cs)
  unfold cntN
  dsimp only at *
  omega
end Go.Sep
/- How many bits are set: byte by byte. -/
namespace Go.Sep
open Go
set_option linter.unusedVariables false
set_option linter.unusedSimpArgs false

theorem and_byte {q y b a : Nat} (hy : y < 256) (ha : a < 256) : (256 * q + y) &&& (256 * b + a) = 256 * (q &&& b) + (y &&& a) := by
  apply Nat.eq_of_testBit_eq
  intro j
  have h1 : y &&& a < 2 ^ 8 := Nat.lt_of_le_of_lt Nat.and_le_left hy
  have e1 := Nat.testBit_two_pow_mul_add q (show y < 2 ^ 8 from hy) j
  have e2 := Nat.testBit_two_pow_mul_add b (show a < 2 ^ 8 from ha) j
  have e3 := Nat.testBit_two_pow_mul_add (q &&& b) h1 j
  simp only [show (2 : Nat) ^ 8 = 256 from rfl] at e1 e2 e3
  rw [Nat.testBit_and, e1, e2, e3]
  split <;> simp
/-- A byte, n times. -/
def mk8 (a : Nat) : Nat → Nat
  | 0 => 0
  | n + 1 => 256 * mk8 a n + a
/-- A function of each byte. -/
def byt (f : Nat → Nat) : Nat → Nat → Nat
  | 0, _ => 0
  | n + 1, x => 256 * byt f n (x / 256) + f (x % 256)
theorem byt_comp {f g : Nat → Nat} (hf : ∀ y, y < 256 → f y < 256) : ∀ (n x : Nat), byt g n (byt f n x) = byt (fun y => g (f y)) n x
  | 0, _ => rfl
  | n + 1, x => by
    have h := hf (x % 256) (Nat.mod_lt _ (by omega))
    simp only [byt]
    rw [show (256 * byt f n (x / 256) + f (x % 256)) / 256 = byt f n (x / 256) by omega, show (256 * byt f n (x / 256) + f (x % 256)) % 256 = f (x % 256) by omega, byt_comp hf n]
def p1 (y : Nat) : Nat := ((y / 2) &&& 0x55) + (y &&& 0x55)
def p2 (y : Nat) : Nat := ((y / 4) &&& 0x33) + (y &&& 0x33)
def p3 (y : Nat) : Nat := (y / 16 + y) &&& 0x0f
theorem p1_lt : ∀ y, y < 256 → p1 y < 256 := by decide +kernel
theorem p2_lt : ∀ y, y < 256 → p2 y < 256 := by decide +kernel
theorem st1 : ∀ (n x : Nat), x < 256 ^ n → ((x / 2) &&& mk8 0x55 n) + (x &&& mk8 0x55 n) = byt p1 n x
  | 0, x, h => by simp [mk8, byt]
  | n + 1, x, h => by
    have hq : x / 256 < 256 ^ n := by rw [Nat.pow_succ] at h; omega
    have hy : x % 256 < 256 := Nat.mod_lt _ (by omega)
    have ih := st1 n (x / 256) hq
    have e1 : x / 2 = 256 * (x / 256 / 2) + (x / 256 % 2 * 128 + x % 256 / 2) := by omega
    have e2 : x = 256 * (x / 256) + x % 256 := by omega
    have key : ∀ b, b < 2 → ∀ y, y < 256 → (b * 128 + y / 2) &&& 0x55 = (y / 2) &&& 0x55 := by decide +kernel
    simp only [mk8, byt]
    rw [e1, and_byte (by omega) (by omega), key _ (Nat.mod_lt _ (by omega)) _ hy]
    have e3 : x &&& 256 * mk8 0x55 n + 0x55 = 256 * (x / 256 &&& mk8 0x55 n) + (x % 256 &&& 0x55) := by
      conv => lhs; rw [e2]
      exact and_byte hy (by omega)
    rw [e3, p1]; omega
theorem st2 : ∀ (n x : Nat), x < 256 ^ n → ((x / 4) &&& mk8 0x33 n) + (x &&& mk8 0x33 n) = byt p2 n x
  | 0, x, h => by simp [mk8, byt]
  | n + 1, x, h => by
    have hq : x / 256 < 256 ^ n := by rw [Nat.pow_succ] at h; omega
    have hy : x % 256 < 256 := Nat.mod_lt _ (by omega)
    have ih := st2 n (x / 256) hq
    have e1 : x / 4 = 256 * (x / 256 / 4) + (x / 256 % 4 * 64 + x % 256 / 4) := by omega
    have e2 : x = 256 * (x / 256) + x % 256 := by omega
    have key : ∀ b, b < 4 → ∀ y, y < 256 → (b * 64 + y / 4) &&& 0x33 = (y / 4) &&& 0x33 := by decide +kernel
    simp only [mk8, byt]
    rw [e1, and_byte (by omega) (by omega), key _ (Nat.mod_lt _ (by omega)) _ hy]
    have e3 : x &&& 256 * mk8 0x33 n + 0x33 = 256 * (x / 256 &&& mk8 0x33 n) + (x % 256 &&& 0x33) := by
      conv => lhs; rw [e2]
      exact and_byte hy (by omega)
    rw [e3, p2]; omega
/-- Both halves of each byte are at most 4. -/
def lowB : Nat → Nat → Prop
  | 0, _ => True
  | n + 1, x => x % 256 % 16 ≤ 4 ∧ x % 256 / 16 ≤ 4 ∧ lowB n (x / 256)
theorem st3 : ∀ (n x : Nat), x < 256 ^ n → lowB n x → (x / 16 + x) &&& mk8 0x0f n = byt p3 n x
  | 0, x, h, _ => by simp [mk8, byt]
  | n + 1, x, h, hl => by
    have hq : x / 256 < 256 ^ n := by rw [Nat.pow_succ] at h; omega
    have hy : x % 256 < 256 := Nat.mod_lt _ (by omega)
    obtain ⟨l1, l2, l3⟩ := hl
    have ih := st3 n (x / 256) hq l3
    have hb : x / 256 % 16 ≤ 4 := by
      cases n with
      | zero => simp at hq; omega
      | succ n => have := l3.1; omega
    have e1 : x / 16 + x = 256 * (x / 256 / 16 + x / 256) + (x / 256 % 16 * 16 + x % 256 / 16 + x % 256) := by omega
    have key : ∀ b, b < 5 → ∀ y, y < 256 → (b * 16 + y / 16 + y) &&& 0x0f = (y / 16 + y) &&& 0x0f := by decide +kernel
    simp only [mk8, byt]
    rw [e1, and_byte (by omega) (by omega), key _ (by omega) _ hy, ih, p3]
theorem lowB_byt {f : Nat → Nat} (hf : ∀ y, y < 256 → f y % 16 ≤ 4 ∧ f y / 16 ≤ 4) : ∀ (n x : Nat), lowB n (byt f n x)
  | 0, _ => trivial
  | n + 1, x => by
    have h := hf (x % 256) (Nat.mod_lt _ (by omega))
    have h2 : f (x % 256) < 256 := by omega
    refine ⟨?_, ?_, ?_⟩
    · simp only [byt]; rw [show (256 * byt f n (x / 256) + f (x % 256)) % 256 = f (x % 256) by omega]; exact h.1
    · simp only [byt]; rw [show (256 * byt f n (x / 256) + f (x % 256)) % 256 = f (x % 256) by omega]; exact h.2
    · simp only [byt]; rw [show (256 * byt f n (x / 256) + f (x % 256)) / 256 = byt f n (x / 256) by omega]; exact lowB_byt hf n _
theorem byt_lt {f : Nat → Nat} (hf : ∀ y, y < 256 → f y < 256) : ∀ (n x : Nat), byt f n x < 256 ^ n
  | 0, _ => by simp [byt]
  | n + 1, x => by
    have h := hf (x % 256) (Nat.mod_lt _ (by omega))
    have ih := byt_lt hf n (x / 256)
    simp only [byt]
    rw [Nat.pow_succ]; omega
def popB (y : Nat) : Nat := ((List.range 8).filter fun i => y.testBit i).length
theorem popB_eq : ∀ y, y < 256 → p3 (p2 (p1 y)) = popB y := by decide +kernel
theorem popB_le : ∀ y, y < 256 → popB y ≤ 8 := by decide +kernel
theorem p12_low : ∀ y, y < 256 → p2 (p1 y) % 16 ≤ 4 ∧ p2 (p1 y) / 16 ≤ 4 := by decide +kernel
theorem byt_congr {f g : Nat → Nat} (h : ∀ y, y < 256 → f y = g y) : ∀ (n x : Nat), byt f n x = byt g n x
  | 0, _ => rfl
  | n + 1, x => by simp only [byt, byt_congr h n, h _ (Nat.mod_lt _ (by omega))]
/-- The three first steps. -/
theorem steps3 {x : Nat} (hx : x < 256 ^ 8) : let a := ((x / 2) &&& mk8 0x55 8) + (x &&& mk8 0x55 8); let b := ((a / 4) &&& mk8 0x33 8) + (a &&& mk8 0x33 8); (a < 256 ^ 8 ∧ b < 256 ^ 8 ∧ lowB 8 b) ∧ (b / 16 + b) &&& mk8 0x0f 8 = byt popB 8 x := by
  intro a b
  have ea : a = byt p1 8 x := st1 8 x hx
  have ha : a < 256 ^ 8 := by rw [ea]; exact byt_lt p1_lt 8 x
  have eb : b = byt p2 8 a := st2 8 a ha
  have hb : b < 256 ^ 8 := by rw [eb]; exact byt_lt p2_lt 8 a
  have eb2 : b = byt (fun y => p2 (p1 y)) 8 x := by rw [eb, ea]; exact byt_comp p1_lt 8 x
  have hl : lowB 8 b := by rw [eb2]; exact lowB_byt p12_low 8 x
  refine ⟨⟨ha, hb, hl⟩, ?_⟩
  rw [st3 8 b hb hl, eb2, byt_comp (fun y hy => p2_lt _ (p1_lt y hy))]
  exact byt_congr popB_eq 8 x
/-- All bits counted. -/
def popN (x m : Nat) : Nat := ((List.range m).filter fun i => x.testBit i).length
theorem popN_8 (x n : Nat) : popN x (8 * (n + 1)) = popB (x % 256) + popN (x / 256) (8 * n) := by
  unfold popN popB
  rw [show 8 * (n + 1) = 8 + 8 * n by omega, List.range_add, List.filter_append, List.length_append, List.filter_map, List.length_map]
  congr 1
  · congr 1
    refine List.filter_congr fun i hi => ?_
    have hi' : i < 8 := by simpa using hi
    rw [show x % 256 = x % 2 ^ 8 from rfl, Nat.testBit_mod_two_pow]; simp [hi']
  · congr 1
    refine List.filter_congr fun i _ => ?_
    simp only [Function.comp]
    rw [show x / 256 = x / 2 ^ 8 from rfl, Nat.testBit_div_two_pow, Nat.add_comm]
theorem div8 {z A q : Nat} (h : z = 256 * A + q) (hq : q < 256) : z / 2 ^ 8 = A := by omega
theorem div16 {z A q : Nat} (h : z = 65536 * A + q) (hq : q < 65536) : z / 2 ^ 16 = A := by omega
theorem div32 {z A q : Nat} (h : z = 4294967296 * A + q) (hq : q < 4294967296) : z / 2 ^ 32 = A := by omega
theorem mod7 {z A q : Nat} (h : z = 128 * A + q) (hq : q < 128) : z % 128 = q := by omega
theorem last_num {z A1 A2 A3 A4 A5 A6 q0 q1 q2 q3 q4 q5 q6 q7 : Nat} (h0 : z = 256 * A1 + q0) (h1 : A1 = 256 * A2 + q1) (h2 : A2 = 256 * A3 + q2) (h3 : A3 = 256 * A4 + q3) (h4 : A4 = 256 * A5 + q4) (h5 : A5 = 256 * A6 + q5) (h6 : A6 = 256 * q7 + q6)
    (b0 : q0 ≤ 8) (b1 : q1 ≤ 8) (b2 : q2 ≤ 8) (b3 : q3 ≤ 8) (b4 : q4 ≤ 8) (b5 : q5 ≤ 8) (b6 : q6 ≤ 8) (b7 : q7 ≤ 8) :
    (z + z / 2 ^ 8 < 2 ^ 64) ∧ (z + z / 2 ^ 8 + (z + z / 2 ^ 8) / 2 ^ 16 < 2 ^ 64) ∧
    (z + z / 2 ^ 8 + (z + z / 2 ^ 8) / 2 ^ 16 + (z + z / 2 ^ 8 + (z + z / 2 ^ 8) / 2 ^ 16) / 2 ^ 32 < 2 ^ 64) ∧
    (z + z / 2 ^ 8 + (z + z / 2 ^ 8) / 2 ^ 16 + (z + z / 2 ^ 8 + (z + z / 2 ^ 8) / 2 ^ 16) / 2 ^ 32) % 128 = q0 + (q1 + (q2 + (q3 + (q4 + (q5 + (q6 + q7)))))) := by
  rw [div8 h0 (by omega)]
  have e1 : z + A1 = 65536 * (A2 + A3) + (256 * (q1 + q2) + (q0 + q1)) := by rw [h0, h1, h2]; omega
  rw [div16 e1 (by omega)]
  have e2 : z + A1 + (A2 + A3) = 4294967296 * (A4 + A5 + (A6 + q7)) + (16777216 * (q3 + q4 + q5 + q6) + 65536 * (q2 + q3 + q4 + q5) + 256 * (q1 + q2 + q3 + q4) + (q0 + q1 + q2 + q3)) := by rw [e1, h2, h3, h4, h5, h6]; omega
  rw [div32 e2 (by omega)]
  have e3 : z + A1 + (A2 + A3) + (A4 + A5 + (A6 + q7)) = 128 * (33554432 * (A4 + A5 + (A6 + q7)) + (131072 * (q3 + q4 + q5 + q6) + 512 * (q2 + q3 + q4 + q5) + 2 * (q1 + q2 + q3 + q4)) + (2 * (A5 + A6) + 2 * q7)) + (q0 + (q1 + (q2 + (q3 + (q4 + (q5 + (q6 + q7))))))) := by rw [e2, h4, h5, h6]; omega
  have hA : A6 ≤ 2056 := by omega
  have hA5 : A5 ≤ 526344 := by omega
  have hA4 : A4 ≤ 134744072 := by omega
  refine ⟨by omega, by omega, by omega, mod7 e3 (by omega)⟩
theorem last_steps {x : Nat} : let z := byt popB 8 x; (z + z / 2 ^ 8 < 2 ^ 64) ∧ (z + z / 2 ^ 8 + (z + z / 2 ^ 8) / 2 ^ 16 < 2 ^ 64) ∧
    (z + z / 2 ^ 8 + (z + z / 2 ^ 8) / 2 ^ 16 + (z + z / 2 ^ 8 + (z + z / 2 ^ 8) / 2 ^ 16) / 2 ^ 32 < 2 ^ 64) ∧
    (z + z / 2 ^ 8 + (z + z / 2 ^ 8) / 2 ^ 16 + (z + z / 2 ^ 8 + (z + z / 2 ^ 8) / 2 ^ 16) / 2 ^ 32) % 128 = popN x 64 := by
  intro z
  have hp : popN x 64 = popB (x % 256) + (popB (x / 256 % 256) + (popB (x / 256 / 256 % 256) + (popB (x / 256 / 256 / 256 % 256) + (popB (x / 256 / 256 / 256 / 256 % 256) + (popB (x / 256 / 256 / 256 / 256 / 256 % 256) + (popB (x / 256 / 256 / 256 / 256 / 256 / 256 % 256) + popB (x / 256 / 256 / 256 / 256 / 256 / 256 / 256 % 256))))))) := by
    rw [show (64 : Nat) = 8 * (7 + 1) from rfl, popN_8, popN_8, popN_8, popN_8, popN_8, popN_8, popN_8, popN_8]; rfl
  rw [hp]
  have hb : ∀ y, popB (y % 256) ≤ 8 := fun y => popB_le _ (Nat.mod_lt _ (by omega))
  refine last_num (A1 := byt popB 7 (x / 256)) (A2 := byt popB 6 (x / 256 / 256)) (A3 := byt popB 5 (x / 256 / 256 / 256)) (A4 := byt popB 4 (x / 256 / 256 / 256 / 256)) (A5 := byt popB 3 (x / 256 / 256 / 256 / 256 / 256)) (A6 := byt popB 2 (x / 256 / 256 / 256 / 256 / 256 / 256))
    rfl rfl rfl rfl rfl rfl ?_ (hb _) (hb _) (hb _) (hb _) (hb _) (hb _) (hb _) (hb _)
  simp only [byt, Nat.mul_zero, Nat.zero_add]
/-- How many cells a set has. -/
def popU (s : BitVec 64) : Nat := ((List.range 64).filter fun i => s.getLsbD i).length
theorem popU_eq (s : BitVec 64) : popU s = popN s.toNat 64 := rfl
theorem popU_le (s : BitVec 64) : popU s ≤ 64 := by
  unfold popU; exact Nat.le_trans (List.length_filter_le _ _) (by simp)
theorem Rep.pop {X Y Z : Int} {s : BitVec 64} {L : List C} (h : Rep X Y Z s L) : popU s = L.length := by
  rw [← h.cells]
  unfold popU cellsOf idsOf
  rw [List.length_map]
  have hv := vol_le h.valid.box
  have hr : List.range 64 = List.range (vol X Y Z) ++ (List.range (64 - vol X Y Z)).map (vol X Y Z + ·) := by rw [← List.range_add]; congr 1; omega
  rw [hr, List.filter_append, List.length_append]
  have : (((List.range (64 - vol X Y Z)).map (vol X Y Z + ·)).filter fun i => s.getLsbD i) = [] := by
    rw [List.filter_eq_nil_iff]
    intro j hj g
    obtain ⟨k, hk, rfl⟩ := List.mem_map.mp hj
    have hk' : k < 64 - vol X Y Z := by simpa using hk
    have := h.top _ (by omega) g
    omega
  rw [this]; simp
end Go.Sep
/- Neighbours: their sets, faces. -/
namespace Go.Sep
open Go
set_option linter.unusedVariables false
set_option linter.unusedSimpArgs false

section
variable {P : Program} {ts : Temps} {H : Heap} {n : Nat} {x y : Operand} {t u : TypeId}
/-- '&' of two numbers that are not negative. -/
theorem e_andI {a b : Nat} {j : Int} (hx : ev ts x = some (.int .i64 (a : Nat))) (hy : ev ts y = some (.int .i64 j)) (hj : j = (b : Int)) (ha : a < 9223372036854775808) (hb : b < 9223372036854775808) :
    E P (.binOp .and t x y u) ts H n (.int .i64 ((a &&& b : Nat) : Int)) H n := by
  subst hj
  refine e_cInt hx hy (by simp) ?_
  have h1 : BitVec.ofInt 64 (a : Int) = BitVec.ofNat 64 a := by
    apply BitVec.eq_of_toNat_eq
    rw [BitVec.toNat_ofInt, BitVec.toNat_ofNat]; omega
  have h2 : BitVec.ofInt 64 (b : Int) = BitVec.ofNat 64 b := by
    apply BitVec.eq_of_toNat_eq
    rw [BitVec.toNat_ofInt, BitVec.toNat_ofNat]; omega
  have h3 : a &&& b ≤ a := Nat.and_le_left
  have h4 : (BitVec.ofNat 64 a &&& BitVec.ofNat 64 b).toNat = a &&& b := by
    rw [BitVec.toNat_and, BitVec.toNat_ofNat, BitVec.toNat_ofNat, Nat.mod_eq_of_lt (by omega), Nat.mod_eq_of_lt (by omega)]
  simp only [cInt, IntKind.bits, h1, h2]
  refine (congrArg (fun z : Nat => some (Value.int IntKind.i64 (IntKind.i64.wrap (z : Int)))) h4).trans ?_
  rw [wrap_in ⟨by omega, by omega⟩]
end
theorem and127 (a : Nat) : a &&& 127 = a % 128 := Nat.and_two_pow_sub_one_eq_mod a 7
/-- The library's count of bits, step by step. -/
theorem oc_all {s a b c d e f : BitVec 64} (hA : (s >>> 1 &&& BitVec.ofNat 64 6148914691236517205) + (s &&& BitVec.ofNat 64 6148914691236517205) = a)
    (hB : (a >>> 2 &&& BitVec.ofNat 64 3689348814741910323) + (a &&& BitVec.ofNat 64 3689348814741910323) = b) (hC : (b >>> 4 + b) &&& BitVec.ofNat 64 1085102592571150095 = c)
    (hD : c + c >>> 8 = d) (hE : d + d >>> 16 = e) (hF : e + e >>> 32 = f) : f.toNat < 9223372036854775808 ∧ f.toNat % 128 = popU s := by
  have m1 : (BitVec.ofNat 64 6148914691236517205).toNat = mk8 0x55 8 := by decide
  have m2 : (BitVec.ofNat 64 3689348814741910323).toNat = mk8 0x33 8 := by decide
  have m3 : (BitVec.ofNat 64 1085102592571150095).toNat = mk8 0x0f 8 := by decide
  have hs := s.isLt
  obtain ⟨⟨h1, h2, _⟩, h3⟩ := steps3 (x := s.toNat) (by simpa using hs)
  obtain ⟨g1, g2, g3, g4⟩ := last_steps (x := s.toNat)
  have ea : a.toNat = ((s.toNat / 2) &&& mk8 0x55 8) + (s.toNat &&& mk8 0x55 8) := by
    rw [← hA, BitVec.toNat_add, BitVec.toNat_and, BitVec.toNat_and, BitVec.toNat_ushiftRight, m1, Nat.shiftRight_eq_div_pow]
    exact Nat.mod_eq_of_lt h1
  rw [← ea] at h1 h2 h3
  have eb : b.toNat = ((a.toNat / 4) &&& mk8 0x33 8) + (a.toNat &&& mk8 0x33 8) := by
    rw [← hB, BitVec.toNat_add, BitVec.toNat_and, BitVec.toNat_and, BitVec.toNat_ushiftRight, m2, Nat.shiftRight_eq_div_pow]
    exact Nat.mod_eq_of_lt h2
  rw [← eb] at h3
  have ec : c.toNat = byt popB 8 s.toNat := by
    rw [← h3, ← hC, BitVec.toNat_and, BitVec.toNat_add, BitVec.toNat_ushiftRight, m3, Nat.shiftRight_eq_div_pow]
    congr 1
    apply Nat.mod_eq_of_lt
    have hb : b.toNat < 256 ^ 8 := b.isLt
    have hl : lowB 8 b.toNat := by
      obtain ⟨⟨_, _, hl⟩, _⟩ := steps3 (x := s.toNat) (by simpa using hs)
      rw [← ea, ← eb] at hl; exact hl
    have h5 : ∀ (n x : Nat), x < 256 ^ n → lowB n x → x ≤ 68 * (256 ^ n - 1) / 255 := by
      intro n
      induction n with
      | zero => intro x hx _; simp at hx; omega
      | succ n ih =>
        intro x hx hl
        have h6 := ih (x / 256) (by rw [Nat.pow_succ] at hx; omega) hl.2.2
        have h7 := hl.1
        have h8 := hl.2.1
        have h9 : 0 < 256 ^ n := Nat.pow_pos (by omega)
        rw [Nat.pow_succ]
        omega
    have := h5 8 b.toNat hb hl
    simp at this ⊢
    omega
  have ed : d.toNat = byt popB 8 s.toNat + byt popB 8 s.toNat / 2 ^ 8 := by
    rw [← hD, BitVec.toNat_add, BitVec.toNat_ushiftRight, ec, Nat.shiftRight_eq_div_pow]
    exact Nat.mod_eq_of_lt g1
  have ee : e.toNat = byt popB 8 s.toNat + byt popB 8 s.toNat / 2 ^ 8 + (byt popB 8 s.toNat + byt popB 8 s.toNat / 2 ^ 8) / 2 ^ 16 := by
    rw [← hE, BitVec.toNat_add, BitVec.toNat_ushiftRight, ed, Nat.shiftRight_eq_div_pow]
    exact Nat.mod_eq_of_lt g2
  have ef : f.toNat = byt popB 8 s.toNat + byt popB 8 s.toNat / 2 ^ 8 + (byt popB 8 s.toNat + byt popB 8 s.toNat / 2 ^ 8) / 2 ^ 16 + (byt popB 8 s.toNat + byt popB 8 s.toNat / 2 ^ 8 + (byt popB 8 s.toNat + byt popB 8 s.toNat / 2 ^ 8) / 2 ^ 16) / 2 ^ 32 := by
    rw [← hF, BitVec.toNat_add, BitVec.toNat_ushiftRight, ee, Nat.shiftRight_eq_div_pow]
    exact Nat.mod_eq_of_lt g3
  refine ⟨?_, by rw [ef, popU_eq]; exact g4⟩
  have h8 : byt popB 8 s.toNat ≤ 8 * (256 ^ 8 - 1) / 255 := by
    have : ∀ (n x : Nat), byt popB n x ≤ 8 * (256 ^ n - 1) / 255 := by
      intro n
      induction n with
      | zero => intro x; simp [byt]
      | succ n ih =>
        intro x
        have h6 := ih (x / 256)
        have h7 := popB_le (x % 256) (Nat.mod_lt _ (by omega))
        have h9 : 0 < 256 ^ n := Nat.pow_pos (by omega)
        rw [Nat.pow_succ]
        simp only [byt]
        omega
    exact this 8 _
  simp at h8
  rw [ef]
  omega

/-! ### Neighbours by number -/
def sgn (f : Nat) : Int := if f = 0 then -1 else 1
/-- The neighbour beyond a face. -/
def nbr (c : C) (m : Nat) : C := movC c (m / 2) (sgn (m % 2))
theorem nbr_2 (c : C) {p f : Nat} (hf : f < 2) : nbr c (2 * p + f) = movC c p (sgn f) := by
  unfold nbr; rw [show (2 * p + f) / 2 = p by omega, show (2 * p + f) % 2 = f by omega]
theorem sm_ci {c : C} (h : (-1000 ≤ c.1 ∧ c.1 ≤ 1000) ∧ (-1000 ≤ c.2.1 ∧ c.2.1 ≤ 1000) ∧ (-1000 ≤ c.2.2 ∧ c.2.2 ≤ 1000)) (k : Nat) : -1000 ≤ ci c k ∧ ci c k ≤ 1000 := by
  unfold ci; split
  · exact h.1
  · split
    · exact h.2.1
    · exact h.2.2
theorem nbr_tri {c : C} {m : Nat} (hm : m < 6) : (tri c).set (0 + m / 2 * 1) (.int .i64 (ci c (m / 2) + (2 * (m : Int).tmod 2 - 1))) = tri (nbr c m) := by
  obtain rfl | rfl | rfl | rfl | rfl | rfl : m = 0 ∨ m = 1 ∨ m = 2 ∨ m = 3 ∨ m = 4 ∨ m = 5 := by omega
  all_goals exact mov_tri (by omega)
theorem tdiv2 (m : Nat) : (m : Int).tdiv 2 = ((m / 2 : Nat) : Int) := by rw [tdiv_ediv (by omega)]; omega
theorem tmod2 (m : Nat) : 0 ≤ (m : Int).tmod 2 ∧ (m : Int).tmod 2 ≤ 1 := by rw [tmod_emod (by omega)]; omega
def unitC (p : Nat) : C := if p = 0 then (1, 0, 0) else if p = 1 then (0, 1, 0) else (0, 0, 1)
theorem unit_list {p : Nat} (hp : p < 3) : [Value.int .i64 0, .int .i64 0, .int .i64 0].set (0 + p * 1) (.int .i64 1) = tri (unitC p) := by
  obtain rfl | rfl | rfl : p = 0 ∨ p = 1 ∨ p = 2 := by omega
  all_goals rfl
theorem unit_sm (p : Nat) : (-1000 ≤ (unitC p).1 ∧ (unitC p).1 ≤ 1000) ∧ (-1000 ≤ (unitC p).2.1 ∧ (unitC p).2.1 ≤ 1000) ∧ (-1000 ≤ (unitC p).2.2 ∧ (unitC p).2.2 ≤ 1000) := by
  unfold unitC; split
  · simp
  · split
    · simp
    · simp
theorem mov_unit (c : C) (p : Nat) : addC c (unitC p) = movC c p 1 := rfl
/-- The faces of a cube, one after the other. -/
def barH (X Y Z : Int) (p : Nat) (cs : List C) (o : List Int) (c : C) : Nat → List Int
  | 0 => o
  | f + 1 => if decide (movC c p (sgn f) ∈ cs) then barH X Y Z p cs o c f else incL (barH X Y Z p cs o c f) (lineIx X Y Z p c) 1
theorem barH_2 (X Y Z : Int) (p : Nat) (cs : List C) (o : List Int) (c : C) : barH X Y Z p cs o c 2 = barStep X Y Z p cs o c := rfl
theorem barH_length (X Y Z : Int) (p : Nat) (cs : List C) (o : List Int) (c : C) : ∀ f, (barH X Y Z p cs o c f).length = o.length
  | 0 => rfl
  | f + 1 => by simp only [barH]; split <;> simp [incL_length, barH_length X Y Z p cs o c f]
theorem barH_bd {X Y Z : Int} {p : Nat} {cs : List C} {o : List Int} {c : C} (hl : lineIx X Y Z p c < o.length) {b : Int} (h : ∀ j, 0 ≤ at1 o j ∧ at1 o j ≤ b) : ∀ f j, 0 ≤ at1 (barH X Y Z p cs o c f) j ∧ at1 (barH X Y Z p cs o c f) j ≤ b + (f : Int)
  | 0, j => by simpa [barH] using h j
  | f + 1, j => by
    have ih := barH_bd hl h (p := p) (cs := cs) f j
    simp only [barH]
    split
    · omega
    · rw [incL_at (by rw [barH_length]; exact hl)]; split <;> omega
theorem not_in {X Y Z : Int} {cs : List C} {c : C} (hv : Valid X Y Z cs) (h : inBox X Y Z c = false) : decide (c ∈ cs) = false := by
  refine decide_eq_false fun hm => ?_
  rw [inBox_of (hv.inn c hm)] at h; simp at h

/-! ### The set of all neighbours -/
def nearTo (X Y Z : Int) (c : C) : Nat → BitVec 64
  | 0 => 0#64
  | m + 1 => if inBox X Y Z (nbr c m) then nearTo X Y Z c m ||| 1#64 <<< cellIx Y Z (nbr c m) else nearTo X Y Z c m
theorem near_get {X Y Z : Int} {c : C} (hX : Box X Y Z) {j : Nat} (hj : j < 64) : ∀ m, (nearTo X Y Z c m).getLsbD j = true ↔ ∃ k, k < m ∧ inBox X Y Z (nbr c k) = true ∧ cellIx Y Z (nbr c k) = j
  | 0 => by simp [nearTo]
  | m + 1 => by
    have ih := near_get (c := c) hX hj m
    simp only [nearTo]
    by_cases h : inBox X Y Z (nbr c m) = true
    · rw [if_pos h, BitVec.getLsbD_or, bit_get hj, Bool.or_eq_true, ih, decide_eq_true_eq]
      constructor
      · rintro (⟨k, h1, h2, h3⟩ | e)
        · exact ⟨k, by omega, h2, h3⟩
        · exact ⟨m, by omega, h, e.symm⟩
      · rintro ⟨k, h1, h2, h3⟩
        rcases Nat.lt_or_ge k m with g | g
        · exact .inl ⟨k, g, h2, h3⟩
        · obtain rfl : k = m := by omega
          exact .inr h3.symm
    · rw [if_neg h, ih]
      constructor
      · rintro ⟨k, h1, h2, h3⟩; exact ⟨k, by omega, h2, h3⟩
      · rintro ⟨k, h1, h2, h3⟩
        rcases Nat.lt_or_ge k m with g | g
        · exact ⟨k, g, h2, h3⟩
        · obtain rfl : k = m := by omega
          exact absurd h2 h
abbrev nearS (X Y Z : Int) (c : C) : BitVec 64 := nearTo X Y Z c 6
def apartI (a b : C) : Int := max (a.1 - b.1) (b.1 - a.1) + max (a.2.1 - b.2.1) (b.2.1 - a.2.1) + max (a.2.2 - b.2.2) (b.2.2 - a.2.2)
theorem ab_n (a b : Int) : 0 ≤ max (a - b) (b - a) := by omega
theorem ab_0 {a b : Int} (h : max (a - b) (b - a) = 0) : a = b := by omega
theorem ab_1 {a b : Int} (h : max (a - b) (b - a) = 1) : a = b - 1 ∨ a = b + 1 := by omega
theorem ab_s (a : Int) : max (a - a) (a - a) = 0 := by omega
theorem ab_p (a : Int) : max (a + 1 - a) (a - (a + 1)) = 1 := by omega
theorem ab_m (a : Int) : max (a + -1 - a) (a - (a + -1)) = 1 := by omega
theorem apart_nbr (e c : C) : apartI e c = 1 ↔ ∃ m, m < 6 ∧ nbr c m = e := by
  obtain ⟨e1, e2, e3⟩ := e
  obtain ⟨c1, c2, c3⟩ := c
  constructor
  · intro h
    simp only [apartI] at h
    have n1 := ab_n e1 c1
    have n2 := ab_n e2 c2
    have n3 := ab_n e3 c3
    have k1 := @ab_0 e1 c1
    have k2 := @ab_0 e2 c2
    have k3 := @ab_0 e3 c3
    have l1 := @ab_1 e1 c1
    have l2 := @ab_1 e2 c2
    have l3 := @ab_1 e3 c3
    generalize max (e1 - c1) (c1 - e1) = m1 at *
    generalize max (e2 - c2) (c2 - e2) = m2 at *
    generalize max (e3 - c3) (c3 - e3) = m3 at *
    have : e1 = c1 - 1 ∧ e2 = c2 ∧ e3 = c3 ∨ e1 = c1 + 1 ∧ e2 = c2 ∧ e3 = c3 ∨ e1 = c1 ∧ e2 = c2 - 1 ∧ e3 = c3 ∨ e1 = c1 ∧ e2 = c2 + 1 ∧ e3 = c3 ∨ e1 = c1 ∧ e2 = c2 ∧ e3 = c3 - 1 ∨ e1 = c1 ∧ e2 = c2 ∧ e3 = c3 + 1 := by
      rcases (show m1 = 1 ∧ m2 = 0 ∧ m3 = 0 ∨ m1 = 0 ∧ m2 = 1 ∧ m3 = 0 ∨ m1 = 0 ∧ m2 = 0 ∧ m3 = 1 by omega) with ⟨a1, a2, a3⟩ | ⟨a1, a2, a3⟩ | ⟨a1, a2, a3⟩
      · have := l1 a1; have := k2 a2; have := k3 a3; rcases l1 a1 with g | g
        · exact .inl ⟨g, k2 a2, k3 a3⟩
        · exact .inr (.inl ⟨g, k2 a2, k3 a3⟩)
      · rcases l2 a2 with g | g
        · exact .inr (.inr (.inl ⟨k1 a1, g, k3 a3⟩))
        · exact .inr (.inr (.inr (.inl ⟨k1 a1, g, k3 a3⟩)))
      · rcases l3 a3 with g | g
        · exact .inr (.inr (.inr (.inr (.inl ⟨k1 a1, k2 a2, g⟩))))
        · exact .inr (.inr (.inr (.inr (.inr ⟨k1 a1, k2 a2, g⟩))))
    rcases this with ⟨h1, h2, h3⟩ | ⟨h1, h2, h3⟩ | ⟨h1, h2, h3⟩ | ⟨h1, h2, h3⟩ | ⟨h1, h2, h3⟩ | ⟨h1, h2, h3⟩
    · exact ⟨0, by omega, by subst h1 h2 h3; simp [nbr, movC, addC, sgn]; omega⟩
    · exact ⟨1, by omega, by subst h1 h2 h3; simp [nbr, movC, addC, sgn]⟩
    · exact ⟨2, by omega, by subst h1 h2 h3; simp [nbr, movC, addC, sgn]; omega⟩
    · exact ⟨3, by omega, by subst h1 h2 h3; simp [nbr, movC, addC, sgn]⟩
    · exact ⟨4, by omega, by subst h1 h2 h3; simp [nbr, movC, addC, sgn]; omega⟩
    · exact ⟨5, by omega, by subst h1 h2 h3; simp [nbr, movC, addC, sgn]⟩
  · rintro ⟨m, hm, h⟩
    obtain rfl | rfl | rfl | rfl | rfl | rfl : m = 0 ∨ m = 1 ∨ m = 2 ∨ m = 3 ∨ m = 4 ∨ m = 5 := by omega
    all_goals
      simp [nbr, movC, addC, sgn] at h
      obtain ⟨rfl, rfl, rfl⟩ := h
      simp only [apartI, ab_s, ab_p, ab_m]
      decide
def adjF (c : C) : C → Bool := fun e => decide (apartI e c = 1)
theorem rep_near {X Y Z : Int} (hX : Box X Y Z) (c : C) : Rep X Y Z (nearS X Y Z c) ((allC X Y Z).filter (adjF c)) :=
  ⟨(allC_valid hX).filter _, fun e he => by
    rw [near_get hX (cellIx_lt64 hX he), List.mem_filter, adjF, decide_eq_true_eq, apart_nbr]
    constructor
    · rintro ⟨k, h1, h2, h3⟩
      exact ⟨(allC_mem hX).mpr he, k, h1, ix_inj hX (inBox_bd h2) he h3⟩
    · rintro ⟨_, k, h1, h2⟩
      exact ⟨k, h1, by rw [h2]; exact inBox_of he, by rw [h2]⟩, fun j hj g => by
    obtain ⟨k, _, h2, h3⟩ := (near_get hX hj _).mp g
    have := cellIx_lt hX (inBox_bd h2)
    omega⟩
theorem Rep.near {X Y Z : Int} {s : BitVec 64} {L : List C} (h : Rep X Y Z s L) (c : C) : Rep X Y Z (nearS X Y Z c &&& s) (L.filter (adjF c)) := by
  have hX := h.valid.box
  refine ((rep_near hX c).inter h).congr (h.valid.filter _) fun e he => ?_
  simp only [List.mem_filter, decide_eq_true_eq, allC_mem hX]
  exact ⟨fun g => ⟨g.2, g.1.2⟩, fun g => ⟨⟨he, g.2⟩, g.1⟩⟩
theorem near_pop {X Y Z : Int} {cs : List C} (hv : Valid X Y Z cs) (c : C) : popU (nearS X Y Z c &&& mask Y Z cs) = (cs.filter (adjF c)).length := ((rep_mask hv).near c).pop
/-- How many neighbours the first cubes have. -/
def pairN (cs : List C) (i : Nat) : Int := ((cs.take i).map fun c => (((cs.filter (adjF c)).length : Nat) : Int)).sum
theorem pairN_zero (cs : List C) : pairN cs 0 = 0 := rfl
theorem pairN_succ {cs : List C} {i : Nat} (h : i < cs.length) : pairN cs i + (((cs.filter (adjF (at3 cs i))).length : Nat) : Int) = pairN cs (i + 1) := by
  unfold pairN; rw [take_succ3 h]; simp
theorem pairN_bd (cs : List C) : ∀ i, i ≤ cs.length → 0 ≤ pairN cs i ∧ pairN cs i ≤ (cs.length : Int) * (i : Int)
  | 0, _ => by simp [pairN_zero]
  | i + 1, h => by
    have ih := pairN_bd cs i (by omega)
    have : (cs.filter (adjF (at3 cs i))).length ≤ cs.length := List.length_filter_le _ _
    rw [← pairN_succ (by omega)]
    rw [show ((i + 1 : Nat) : Int) = (i : Int) + 1 by omega, Int.mul_add]
    omega
/-- Differences, number by number. -/
def apartN (a b : C) : Nat → Int
  | 0 => 0
  | k + 1 => apartN a b k + max (ci a k - ci b k) (ci b k - ci a k)
theorem apartN_3 (a b : C) : apartN a b 3 = apartI a b := by simp [apartN, apartI, ci]
theorem apartN_bd {a b : C} (ha : ∀ k, -1000 ≤ ci a k ∧ ci a k ≤ 1000) (hb : ∀ k, -1000 ≤ ci b k ∧ ci b k ≤ 1000) : ∀ k, 0 ≤ apartN a b k ∧ apartN a b k ≤ 2000 * (k : Int)
  | 0 => by simp [apartN]
  | k + 1 => by
    have ih := apartN_bd ha hb k
    have h1 := ha k
    have h2 := hb k
    simp only [apartN]; omega
theorem sgn_get {f : Nat} (hf : f < 2) : [Value.int .i64 (-1), Value.int .i64 1][((f : Nat) : Int).toNat * 1]? = some (.int .i64 (sgn f)) := by
  obtain rfl | rfl : f = 0 ∨ f = 1 := by omega
  all_goals rfl
theorem near_T {X Y Z : Int} {c : C} {d f : Nat} (h : inBox X Y Z (nbr c (2 * d + f)) = true) : nearTo X Y Z c (2 * d + (f + 1)) = nearTo X Y Z c (2 * d + f) ||| 1#64 <<< cellIx Y Z (nbr c (2 * d + f)) := by
  rw [← Nat.add_assoc]; simp only [nearTo, h, if_true]
theorem near_F {X Y Z : Int} {c : C} {d f : Nat} (h : inBox X Y Z (nbr c (2 * d + f)) = false) : nearTo X Y Z c (2 * d + (f + 1)) = nearTo X Y Z c (2 * d + f) := by
  rw [← Nat.add_assoc]; simp only [nearTo, h, Bool.false_eq_true, if_false]
theorem mul64 {a b : Nat} (ha : a ≤ 64) (hb : b ≤ 64) : (a : Int) * (b : Int) ≤ 4096 := by
  have h : a * b ≤ 64 * 64 := Nat.mul_le_mul ha hb
  have : ((a * b : Nat) : Int) ≤ 4096 := by omega
  simpa using this
theorem tdiv_2b {z : Int} (h : 0 ≤ z) : 0 ≤ z.tdiv 2 ∧ z.tdiv 2 ≤ z := by rw [tdiv_ediv h]; omega
end Go.Sep
/- Shadows as arguments. -/
namespace Go.Sep
open Go
set_option linter.unusedVariables false
set_option linter.unusedSimpArgs false

/-! ### Rows of numbers that a law was handed -/
def RowI (H : Heap) (n : Nat) (sv : Value) (zs : List Int) : Prop :=
  (zs = [] ∧ sv = .slice none 0 2) ∨ ∃ b, b < n ∧ sv = .slice (some ⟨b, 0, none⟩) zs.length 1 ∧ H b = some (.cells true (ints zs))
theorem RowI.form {H : Heap} {n : Nat} {sv : Value} {zs : List Int} (h : RowI H n sv zs) : ∃ p e, sv = .slice p zs.length e := by
  rcases h with ⟨rfl, rfl⟩ | ⟨b, _, rfl, _⟩
  · exact ⟨_, _, rfl⟩
  · exact ⟨_, _, rfl⟩
theorem RowI.keep {H G : Heap} {n m : Nat} {sv : Value} {zs : List Int} (h : RowI H n sv zs) (hm : n ≤ m) (hG : ∀ x b, x < n → H x = some b → G x = some b) : RowI G m sv zs := by
  rcases h with h | ⟨b, hb, h1, h2⟩
  · exact .inl h
  · exact .inr ⟨b, by omega, h1, hG b _ hb h2⟩
theorem RowV.ints1 {H : Heap} {n : Nat} {sv : Value} {zs : List Int} (h : RowV H n 1 sv zs) : RowI H n sv zs ∧ zs.length ≤ 9223372036854775807 := by
  rcases h with ⟨rfl, rfl⟩ | ⟨b, len, h1, rfl, h3, h4, h5⟩
  · exact ⟨.inl ⟨rfl, rfl⟩, by simp⟩
  · obtain rfl : len = zs.length := by omega
    exact ⟨.inr ⟨b, h1, rfl, h5⟩, by omega⟩
def copyI (zs : List Int) (i : Nat) : List Int := zs.take i ++ List.replicate (zs.length - i) 0
theorem copyI_length {zs : List Int} {i : Nat} (h : i ≤ zs.length) : (copyI zs i).length = zs.length := by simp [copyI]; omega
theorem copyI_set {zs : List Int} {i : Nat} (h : i < zs.length) : (copyI zs i).set i (at1 zs i) = copyI zs (i + 1) := by
  unfold copyI
  rw [List.set_append_right _ _ (by simp; omega)]
  rw [show i - (zs.take i).length = 0 by simp; omega, show zs.length - i = (zs.length - (i + 1)) + 1 by omega, List.replicate_succ, List.set_cons_zero]
  rw [List.take_add_one, show zs[i]? = some (at1 zs i) by simp [at1, List.getD, h]]
  simp
theorem copyI_all (zs : List Int) : copyI zs zs.length = zs := by simp [copyI]
theorem copyI_zero (zs : List Int) : copyI zs 0 = List.replicate zs.length 0 := by simp [copyI]

/-! ### One of three by direction -/
theorem pick3_get {b0 b1 b2 m0 m1 m2 d : Nat} (hd : d < 3) : [Value.slice (some ⟨b2, 0, none⟩) m2 1, .slice (some ⟨b1, 0, none⟩) m1 1, .slice (some ⟨b0, 0, none⟩) m0 1][((d : Nat) : Int).toNat * 1]? = some (.slice (some ⟨pick3 b2 b1 b0 d, 0, none⟩) (pick3 m2 m1 m0 d) 1) := by
  obtain rfl | rfl | rfl : d = 0 ∨ d = 1 ∨ d = 2 := by omega
  all_goals rfl
theorem pick_look {G : Heap} {b0 b1 b2 d : Nat} {r0 r1 r2 : Bool} {x0 x1 x2 : List Int} (h0 : G b0 = some (.cells r0 (ints x0))) (h1 : G b1 = some (.cells r1 (ints x1))) (h2 : G b2 = some (.cells r2 (ints x2))) (hd : d < 3) :
    G (pick3 b2 b1 b0 d) = some (.cells (pick3 r2 r1 r0 d) (ints (pick3 x2 x1 x0 d))) := by
  obtain rfl | rfl | rfl : d = 0 ∨ d = 1 ∨ d = 2 := by omega
  · exact h2
  · exact h1
  · exact h0
theorem pick_len {x0 x1 x2 : List Int} (d : Nat) : (pick3 x2 x1 x0 d).length = pick3 x2.length x1.length x0.length d := by
  rcases d with _ | _ | d <;> rfl
theorem pick_le {a b c m d : Nat} (ha : a ≤ m) (hb : b ≤ m) (hc : c ≤ m) : pick3 a b c d ≤ m := by
  rcases d with _ | _ | d
  · exact ha
  · exact hb
  · exact hc
theorem pick_lt {a b c m d : Nat} (ha : a < m) (hb : b < m) (hc : c < m) : pick3 a b c d < m := by
  rcases d with _ | _ | d
  · exact ha
  · exact hb
  · exact hc

/-! ### Valid shadows -/
def oneB (zs : List Int) (m : Nat) : Bool := decide (zs.length = m) && zs.all fun z => within z 0 1
def shadB (X Y Z : Int) (x0 x1 x2 : List Int) : Bool := sides X Y Z && (oneB x0 (linesOf X Y Z 2) && oneB x1 (linesOf X Y Z 1) && oneB x2 (linesOf X Y Z 0))
theorem oneB_yes {zs : List Int} {m : Nat} (h1 : zs.length = m) (h2 : (zs.all fun z => within z 0 1) = true) : oneB zs m = true := by simp [oneB, h1, h2]
theorem oneB_no1 {zs : List Int} {m : Nat} (h1 : ¬ zs.length = m) : oneB zs m = false := by simp [oneB, h1]
theorem oneB_no2 {zs : List Int} {m : Nat} (h2 : (zs.all fun z => within z 0 1) = false) : oneB zs m = false := by simp only [oneB, h2, Bool.and_false]
theorem oneB_no3 {zs : List Int} {m i : Nat} (hi : i < zs.length) (h : within (at1 zs i) 0 1 = false) : oneB zs m = false := oneB_no2 (all1_no hi h)
theorem oneB_fin {zs : List Int} {m : Nat} (h : ∀ j, j < zs.length → within (at1 zs j) 0 1 = true) : oneB zs m = decide ((zs.length : Int) = (m : Int)) := by
  unfold oneB
  rw [all1_yes (p := fun z => within z 0 1) h, Bool.and_true, decide_eq_decide]; omega
theorem shadB_no0 {X Y Z : Int} {x0 x1 x2 : List Int} (h : sides X Y Z = false) : shadB X Y Z x0 x1 x2 = false := by simp [shadB, h]
theorem shadB_no {X Y Z : Int} {x0 x1 x2 : List Int} {k : Nat} (hk : k < 3) (h : oneB (pick3 x2 x1 x0 k) (linesOf X Y Z k) = false) : shadB X Y Z x0 x1 x2 = false := by
  obtain rfl | rfl | rfl : k = 0 ∨ k = 1 ∨ k = 2 := by omega
  all_goals
    simp only [pick3] at h
    simp [shadB, h]
theorem shadB_yes {X Y Z : Int} {x0 x1 x2 : List Int} (hs : sides X Y Z = true) (h : ∀ k, k < 3 → oneB (pick3 x2 x1 x0 k) (linesOf X Y Z k) = true) : shadB X Y Z x0 x1 x2 = true := by
  have h0 := h 0 (by omega)
  have h1 := h 1 (by omega)
  have h2 := h 2 (by omega)
  simp only [pick3] at h0 h1 h2
  simp [shadB, hs, h0, h1, h2]
structure ShOk (X Y Z : Int) (x0 x1 x2 : List Int) : Prop where
  box : Box X Y Z
  len : ∀ k, k < 3 → (pick3 x2 x1 x0 k).length = linesOf X Y Z k
  bin : ∀ k, k < 3 → ∀ j, j < linesOf X Y Z k → at1 (pick3 x2 x1 x0 k) j = 0 ∨ at1 (pick3 x2 x1 x0 k) j = 1
theorem oneB_len {zs : List Int} {m : Nat} (h : oneB zs m = true) : zs.length = m := by
  simp only [oneB, Bool.and_eq_true, decide_eq_true_eq] at h; exact h.1
theorem oneB_bin {zs : List Int} {m j : Nat} (h : oneB zs m = true) (hj : j < m) : at1 zs j = 0 ∨ at1 zs j = 1 := by
  have hl := oneB_len h
  simp only [oneB, Bool.and_eq_true, List.all_eq_true] at h
  have := h.2 (at1 zs j) (by
    simp only [at1, List.getD, List.getElem?_eq_getElem (show j < zs.length by omega), Option.getD_some]
    exact List.getElem_mem _)
  simp only [within, Bool.and_eq_true, decide_eq_true_eq] at this
  omega
theorem shOk {X Y Z : Int} {x0 x1 x2 : List Int} (h : shadB X Y Z x0 x1 x2 = true) : ShOk X Y Z x0 x1 x2 := by
  simp only [shadB, Bool.and_eq_true] at h
  obtain ⟨hs, ⟨h0, h1⟩, h2⟩ := h
  refine ⟨sides_bd hs, fun k hk => ?_, fun k hk j hj => ?_⟩
  · obtain rfl | rfl | rfl : k = 0 ∨ k = 1 ∨ k = 2 := by omega
    · exact oneB_len h2
    · exact oneB_len h1
    · exact oneB_len h0
  · obtain rfl | rfl | rfl : k = 0 ∨ k = 1 ∨ k = 2 := by omega
    · exact oneB_bin h2 hj
    · exact oneB_bin h1 hj
    · exact oneB_bin h0 hj

/-! ### Allowed cells -/
def alF (X Y Z : Int) (x0 x1 x2 : List Int) (c : C) : Bool := !decide (at1 x2 (lineIx X Y Z 0 c) = 0) && !decide (at1 x1 (lineIx X Y Z 1 c) = 0) && !decide (at1 x0 (lineIx X Y Z 2 c) = 0)
theorem alF_no {X Y Z : Int} {x0 x1 x2 : List Int} {c : C} {k : Nat} (hk : k < 3) (h : at1 (pick3 x2 x1 x0 k) (lineIx X Y Z k c) = 0) : alF X Y Z x0 x1 x2 c = false := by
  obtain rfl | rfl | rfl : k = 0 ∨ k = 1 ∨ k = 2 := by omega
  all_goals
    simp only [pick3] at h
    simp only [alF, h, decide_true, Bool.not_true, Bool.and_false, Bool.false_and]
theorem alF_yes {X Y Z : Int} {x0 x1 x2 : List Int} {c : C} (h : ∀ k, k < 3 → ¬ at1 (pick3 x2 x1 x0 k) (lineIx X Y Z k c) = 0) : alF X Y Z x0 x1 x2 c = true := by
  have h0 := h 0 (by omega)
  have h1 := h 1 (by omega)
  have h2 := h 2 (by omega)
  simp only [pick3] at h0 h1 h2
  simp only [alF, h0, h1, h2, decide_false, Bool.not_false, Bool.and_self]
theorem al_eq {X Y Z : Int} {x0 x1 x2 : List Int} (h : ShOk X Y Z x0 x1 x2) {c : C} (hc : In X Y Z c) :
    alF X Y Z x0 x1 x2 c = (decide (at1 x0 (lineIx X Y Z 2 c) = 1) && decide (at1 x1 (lineIx X Y Z 1 c) = 1) && decide (at1 x2 (lineIx X Y Z 0 c) = 1)) := by
  have b0 := h.bin 0 (by omega) _ (line_bd h.box 0 hc).2
  have b1 := h.bin 1 (by omega) _ (line_bd h.box 1 hc).2
  have b2 := h.bin 2 (by omega) _ (line_bd h.box 2 hc).2
  simp only [pick3] at b0 b1 b2
  unfold alF
  rcases b0 with e0 | e0 <;> rcases b1 with e1 | e1 <;> rcases b2 with e2 | e2 <;> simp only [e0, e1, e2] <;> decide
def alC (X Y Z : Int) (x0 x1 x2 : List Int) : List C := (allC X Y Z).filter (alF X Y Z x0 x1 x2)
theorem alC_valid {X Y Z : Int} {x0 x1 x2 : List Int} (hX : Box X Y Z) : Valid X Y Z (alC X Y Z x0 x1 x2) := (allC_valid hX).filter _
theorem alC_cells {X Y Z : Int} {x0 x1 x2 : List Int} (hX : Box X Y Z) : cellsOf X Y Z (thoseTo Y Z (alF X Y Z x0 x1 x2) (vol X Y Z)) = alC X Y Z x0 x1 x2 := cells_those hX _
def fitL (X Y Z : Int) (x0 x1 x2 : List Int) (L : List C) : Bool := decide (x0 = onesL (viewL X Y Z 2 L)) && decide (x1 = onesL (viewL X Y Z 1 L)) && decide (x2 = onesL (viewL X Y Z 0 L))
abbrev fitB (X Y Z : Int) (x0 x1 x2 : List Int) : Bool := fitL X Y Z x0 x1 x2 (alC X Y Z x0 x1 x2)
theorem dec_comm (a b : List Int) : decide (a = b) = decide (b = a) := by rw [decide_eq_decide]; exact eq_comm
end Go.Sep
/- Columns next to each other. -/
namespace Go.Sep
open Go
set_option linter.unusedVariables false
set_option linter.unusedSimpArgs false

/-- The neighbours of a column, as the program lists them. -/
def nearL (Y : Int) (m p : Nat) : List Int :=
  (if Y ≤ (p : Int) then [(p : Int) - Y] else []) ++ ((if 0 < (p : Int).tmod Y then [(p : Int) - 1] else []) ++ ((if (p : Int).tmod Y < Y - 1 then [(p : Int) + 1] else []) ++ (if (p : Int) + Y < (m : Int) then [(p : Int) + Y] else [])))
def colC (Y : Int) (p : Nat) : C := ((p : Int).tdiv Y, (p : Int).tmod Y, 0)
def nextF (Y : Int) (p q : Nat) : Bool := decide (apartI (colC Y p) (colC Y q) = 1)
/-- Some numbers below another one, one after the other. -/
def filI (f : Nat → Bool) (i : Nat) : List Int := ((List.range i).filter f).map fun (j : Nat) => (j : Int)
theorem filI_zero (f : Nat → Bool) : filI f 0 = [] := rfl
theorem filI_T {f : Nat → Bool} {i : Nat} (h : f i = true) : filI f (i + 1) = filI f i ++ [(i : Int)] := by simp [filI, List.range_succ, List.filter_append, h]
theorem filI_F {f : Nat → Bool} {i : Nat} (h : f i = false) : filI f (i + 1) = filI f i := by simp [filI, List.range_succ, List.filter_append, h]
theorem filI_len (f : Nat → Bool) (i : Nat) : (filI f i).length ≤ i := by
  unfold filI; rw [List.length_map]; exact Nat.le_trans (List.length_filter_le _ _) (by simp)
theorem next_near {X Y Z : Int} (hX : Box X Y Z) {p : Nat} (hp : p < (X * Y).toNat) : filI (nextF Y p) (X * Y).toNat = nearL Y (X * Y).toNat p := by
  obtain ⟨hx, hy, _⟩ := hX
  obtain rfl | rfl | rfl | rfl : X = 1 ∨ X = 2 ∨ X = 3 ∨ X = 4 := by omega
  all_goals
    obtain rfl | rfl | rfl | rfl : Y = 1 ∨ Y = 2 ∨ Y = 3 ∨ Y = 4 := by omega
    all_goals
      revert p
      decide +kernel
theorem near_bd {X Y Z : Int} (hX : Box X Y Z) {p : Nat} (hp : p < (X * Y).toNat) : ∀ q ∈ nearL Y (X * Y).toNat p, 0 ≤ q ∧ q < ((X * Y).toNat : Int) := by
  rw [← next_near hX hp]
  intro q hq
  obtain ⟨j, hj, rfl⟩ := List.mem_map.mp hq
  have := (List.mem_filter.mp hj).1
  have : j < (X * Y).toNat := by simpa using this
  omega
theorem near_len (Y : Int) (m p : Nat) : (nearL Y m p).length ≤ 4 := by
  unfold nearL
  have h : ∀ (P : Prop) [Decidable P] (z : Int), (if P then [z] else []).length ≤ 1 := fun P _ z => by split <;> simp
  simp only [List.length_append]
  have h1 := h (Y ≤ (p : Int)) ((p : Int) - Y)
  have h2 := h (0 < (p : Int).tmod Y) ((p : Int) - 1)
  have h3 := h ((p : Int).tmod Y < Y - 1) ((p : Int) + 1)
  have h4 := h ((p : Int) + Y < (m : Int)) ((p : Int) + Y)
  omega
theorem at1_mem {zs : List Int} {j : Nat} (h : j < zs.length) : at1 zs j ∈ zs := by
  simp only [at1, List.getD, List.getElem?_eq_getElem h, Option.getD_some]
  exact List.getElem_mem h
theorem mem_at1 {zs : List Int} {z : Int} (h : z ∈ zs) : ∃ j, j < zs.length ∧ at1 zs j = z := by
  obtain ⟨j, hj, rfl⟩ := List.getElem_of_mem h
  exact ⟨j, hj, by simp [at1, List.getD, hj]⟩
/-- The first place at which something is so, or -1. -/
def idxI (f : Int → Bool) (zs : List Int) : Int := if zs.any f then (zs.findIdx f : Int) else -1
theorem idxI_at {f : Int → Bool} {zs : List Int} {i : Nat} (hi : i < zs.length) (hq : ∀ j, j < i → f (at1 zs j) = false) (h : f (at1 zs i) = true) : idxI f zs = (i : Int) := by
  unfold idxI
  rw [if_pos (List.any_eq_true.mpr ⟨_, at1_mem hi, h⟩)]
  congr 1
  rw [List.findIdx_eq hi]
  refine ⟨by simpa [at1, List.getD, hi] using h, fun j hj => ?_⟩
  have := hq j hj
  simpa [at1, List.getD, show j < zs.length by omega] using this
theorem idxI_no {f : Int → Bool} {zs : List Int} (hq : ∀ j, j < zs.length → f (at1 zs j) = false) : idxI f zs = -1 := by
  unfold idxI
  rw [if_neg]
  intro h
  obtain ⟨z, hz, e⟩ := List.any_eq_true.mp h
  obtain ⟨j, hj, rfl⟩ := mem_at1 hz
  rw [hq j hj] at e; simp at e
theorem idxI_any (f : Int → Bool) (zs : List Int) : decide (0 ≤ idxI f zs) = zs.any f := by
  unfold idxI
  cases h : zs.any f with
  | true => rw [if_pos rfl]; exact decide_eq_true (by omega)
  | false => rw [if_neg (by simp)]; rfl
/-- A peak. -/
def peakF (Y : Int) (hs : List Int) (p : Nat) : Bool := decide (0 < at1 hs p) && !((nearL Y hs.length p).any fun q => decide (at1 hs p ≤ at1 hs q.toNat))
def pkN (Y : Int) (hs : List Int) (p k : Nat) : Bool := decide (0 < at1 hs p) && ((nearL Y hs.length p).take k).all fun q => decide (at1 hs q.toNat < at1 hs p)
theorem pkN_zero (Y : Int) (hs : List Int) (p : Nat) : pkN Y hs p 0 = decide (0 < at1 hs p) := by simp [pkN]
theorem pkN_succ {Y : Int} {hs : List Int} {p k : Nat} (hk : k < (nearL Y hs.length p).length) : pkN Y hs p (k + 1) = (pkN Y hs p k && decide (at1 hs (at1 (nearL Y hs.length p) k).toNat < at1 hs p)) := by
  unfold pkN; rw [take_succ1 hk, List.all_append]; simp only [List.all_cons, List.all_nil, Bool.and_true, Bool.and_assoc]
theorem pkN_all (Y : Int) (hs : List Int) (p : Nat) {k : Nat} (hk : k = (nearL Y hs.length p).length) : pkN Y hs p k = peakF Y hs p := by
  subst hk
  unfold pkN peakF
  rw [List.take_length]
  congr 1
  generalize nearL Y hs.length p = l
  induction l with
  | nil => rfl
  | cons q l ih =>
    rw [List.all_cons, List.any_cons, Bool.not_or, ih]
    congr 1
    rw [Bool.eq_iff_iff]; simp
end Go.Sep
/- Cells to which neighbours lead. -/
namespace Go.Sep
open Go
set_option linter.unusedVariables false
set_option linter.unusedSimpArgs false

/-- Cells to which steps of a relation lead within some cells, from some of them. -/
inductive Rch (adj : C → C → Prop) (A B : C → Prop) : C → Prop
  | base {c : C} : A c → B c → Rch adj A B c
  | step {c e : C} : Rch adj A B c → adj c e → A e → Rch adj A B e
theorem Rch.mem {adj : C → C → Prop} {A B : C → Prop} {c : C} (h : Rch adj A B c) : A c := by
  cases h with
  | base h _ => exact h
  | step _ _ h => exact h
theorem Rch.mono {adj : C → C → Prop} {A B B' : C → Prop} (hB : ∀ c, B c → B' c) {c : C} (h : Rch adj A B c) : Rch adj A B' c := by
  induction h with
  | base h1 h2 => exact .base h1 (hB _ h2)
  | step _ h2 h3 ih => exact .step ih h2 h3
theorem Rch.trans {adj : C → C → Prop} {A B : C → Prop} {c e : C} (h : Rch adj A B c) (k : Rch adj A (fun x => x = c) e) : Rch adj A B e := by
  induction k with
  | base h1 h2 => subst h2; exact h
  | step _ h2 h3 ih => exact .step ih h2 h3
theorem Rch.symm {adj : C → C → Prop} (hs : ∀ a b, adj a b → adj b a) {A : C → Prop} {c e : C} (h : Rch adj A (fun x => x = c) e) : Rch adj A (fun x => x = e) c := by
  induction h with
  | base h1 h2 => subst h2; exact .base h1 rfl
  | @step d f h1 h2 h3 ih =>
    have : Rch adj A (fun x => x = f) d := .step (.base h3 rfl) (hs _ _ h2) h1.mem
    exact this.trans ih
theorem Rch.from {adj : C → C → Prop} {A B : C → Prop} {e : C} (h : Rch adj A B e) : ∃ c, A c ∧ B c ∧ Rch adj A (fun x => x = c) e := by
  induction h with
  | base h1 h2 => exact ⟨_, h1, h2, .base h1 rfl⟩
  | step _ h2 h3 ih =>
    obtain ⟨c, h4, h5, h6⟩ := ih
    exact ⟨c, h4, h5, .step h6 h2 h3⟩
theorem Rch.congr {adj : C → C → Prop} {A A' B B' : C → Prop} (hA : ∀ c, A c → A' c) (hB : ∀ c, A c → B c → B' c) {c : C} (h : Rch adj A B c) : Rch adj A' B' c := by
  induction h with
  | base h1 h2 => exact .base (hA _ h1) (hB _ h1 h2)
  | step _ h2 h3 ih => exact .step ih h2 (hA _ h3)

/-- One cell is next to another one. -/
def adjR (c e : C) : Prop := apartI e c = 1
instance (c e : C) : Decidable (adjR c e) := inferInstanceAs (Decidable (apartI e c = 1))
theorem apart_comm (a b : C) : apartI a b = apartI b a := by simp only [apartI]; omega
theorem adjR_symm : ∀ a b, adjR a b → adjR b a := fun a b h => by unfold adjR at *; rw [apart_comm]; exact h
/-- Cells of a row to which neighbours in it lead from some of its cells. -/
noncomputable def rchL (L B : List C) : List C := by
  classical exact L.filter fun c => decide (Rch adjR (fun x => x ∈ L) (fun x => x ∈ B) c)
open Classical in
theorem rchL_mem {L B : List C} {c : C} : c ∈ rchL L B ↔ Rch adjR (fun x => x ∈ L) (fun x => x ∈ B) c := by
  unfold rchL
  rw [List.mem_filter, decide_eq_true_eq]
  exact ⟨fun h => h.2, fun h => ⟨h.mem, h⟩⟩
theorem rchL_valid {X Y Z : Int} {L : List C} (h : Valid X Y Z L) (B : List C) : Valid X Y Z (rchL L B) := h.filter _

/-! ### The program's growth, round after round -/
def nxtN (X Y Z : Int) (s t : BitVec 64) (i : Nat) : BitVec 64 := (List.range i).foldl (fun o j => if s.getLsbD j then o ||| (nearS X Y Z (cellAt Y Z j) &&& t) else o) s
theorem nxtN_zero (X Y Z : Int) (s t : BitVec 64) : nxtN X Y Z s t 0 = s := rfl
theorem nxtN_T {X Y Z : Int} {s t : BitVec 64} {i : Nat} (h : s.getLsbD i = true) : nxtN X Y Z s t (i + 1) = nxtN X Y Z s t i ||| (nearS X Y Z (cellAt Y Z i) &&& t) := by
  unfold nxtN; rw [List.range_succ, List.foldl_append]; simp [h]
theorem nxtN_F {X Y Z : Int} {s t : BitVec 64} {i : Nat} (h : s.getLsbD i = false) : nxtN X Y Z s t (i + 1) = nxtN X Y Z s t i := by
  unfold nxtN; rw [List.range_succ, List.foldl_append]; simp [h]
theorem nxt_get {X Y Z : Int} {s t : BitVec 64} {j : Nat} (hj : j < 64) : ∀ i, (nxtN X Y Z s t i).getLsbD j = true ↔ s.getLsbD j = true ∨ ∃ k, k < i ∧ s.getLsbD k = true ∧ (nearS X Y Z (cellAt Y Z k)).getLsbD j = true ∧ t.getLsbD j = true
  | 0 => by simp [nxtN_zero]
  | i + 1 => by
    have ih := nxt_get (X := X) (Y := Y) (Z := Z) (s := s) (t := t) hj i
    cases h : s.getLsbD i with
    | true =>
      rw [nxtN_T h, BitVec.getLsbD_or, Bool.or_eq_true, ih, BitVec.getLsbD_and, Bool.and_eq_true]
      constructor
      · rintro ((g | ⟨k, h1, h2⟩) | g)
        · exact .inl g
        · exact .inr ⟨k, by omega, h2⟩
        · exact .inr ⟨i, by omega, h, g⟩
      · rintro (g | ⟨k, h1, h2, h3⟩)
        · exact .inl (.inl g)
        · rcases Nat.lt_or_ge k i with g | g
          · exact .inl (.inr ⟨k, g, h2, h3⟩)
          · obtain rfl : k = i := by omega
            exact .inr h3
    | false =>
      rw [nxtN_F h, ih]
      constructor
      · rintro (g | ⟨k, h1, h2⟩)
        · exact .inl g
        · exact .inr ⟨k, by omega, h2⟩
      · rintro (g | ⟨k, h1, h2, h3⟩)
        · exact .inl g
        · rcases Nat.lt_or_ge k i with g | g
          · exact .inr ⟨k, g, h2, h3⟩
          · obtain rfl : k = i := by omega
            rw [h] at h2; simp at h2
/-- A set in the making: it has the first cells, and only cells to which neighbours lead. -/
structure Grw (X Y Z : Int) (B L : List C) (s : BitVec 64) (M : List C) : Prop where
  rep : Rep X Y Z s M
  sub : ∀ c ∈ B, c ∈ M
  rch : ∀ c ∈ M, Rch adjR (fun x => x ∈ L) (fun x => x ∈ B) c
theorem Grw.start {X Y Z : Int} {B L : List C} {s : BitVec 64} (h : Rep X Y Z s B) (hB : ∀ c ∈ B, c ∈ L) : Grw X Y Z B L s B := ⟨h, fun c hc => hc, fun c hc => .base (hB c hc) hc⟩
theorem Grw.next {X Y Z : Int} {B L M : List C} {s t : BitVec 64} (h : Grw X Y Z B L s M) (ht : Rep X Y Z t L) : ∃ M', Grw X Y Z B L (nxtN X Y Z s t (vol X Y Z)) M' ∧ (∀ c ∈ M, c ∈ M') ∧ (∀ c ∈ M, ∀ e ∈ L, adjR c e → e ∈ M') := by
  have hX := h.rep.valid.box
  have hv := vol_le hX
  have hr : Rep X Y Z (nxtN X Y Z s t (vol X Y Z)) (cellsOf X Y Z (nxtN X Y Z s t (vol X Y Z))) := rep_cells hX fun j hj g => by
    rcases (nxt_get hj _).mp g with g | ⟨k, _, _, _, g⟩
    · exact h.rep.top j hj g
    · exact ht.top j hj g
  have mem : ∀ c, In X Y Z c → (c ∈ cellsOf X Y Z (nxtN X Y Z s t (vol X Y Z)) ↔ c ∈ M ∨ ∃ d ∈ M, adjR d c ∧ c ∈ L) := fun c hc => by
    rw [← hr.mem c hc, nxt_get (cellIx_lt64 hX hc), h.rep.mem c hc]
    constructor
    · rintro (g | ⟨k, h1, h2, h3, h4⟩)
      · exact .inl g
      · have hk := cellAt_in hX h1
        have e := (h.rep.mem _ hk)
        rw [ix_cellAt hX h1] at e
        have h5 := ((rep_near hX (cellAt Y Z k)).mem c hc).mp h3
        exact .inr ⟨_, e.mp h2, of_decide_eq_true (List.mem_filter.mp h5).2, (ht.mem c hc).mp h4⟩
    · rintro (g | ⟨d, h1, h2, h3⟩)
      · exact .inl g
      · have hd := h.rep.valid.inn d h1
        refine .inr ⟨cellIx Y Z d, cellIx_lt hX hd, (h.rep.mem d hd).mpr h1, ?_, (ht.mem c hc).mpr h3⟩
        rw [cellAt_ix hX hd]
        exact ((rep_near hX d).mem c hc).mpr (List.mem_filter.mpr ⟨(allC_mem hX).mpr hc, decide_eq_true h2⟩)
  refine ⟨_, ⟨hr, fun c hc => (mem c (h.rep.valid.inn c (h.sub c hc))).mpr (.inl (h.sub c hc)), fun c hc => ?_⟩, fun c hc => (mem c (h.rep.valid.inn c hc)).mpr (.inl hc), fun c hc e he ha => (mem e (ht.valid.inn e he)).mpr (.inr ⟨c, hc, ha, he⟩)⟩
  rcases (mem c (hr.valid.inn c hc)).mp hc with g | ⟨d, h1, h2, h3⟩
  · exact h.rch c g
  · exact .step (h.rch d h1) h2 h3
theorem Grw.done {X Y Z : Int} {B L M : List C} {s t : BitVec 64} (h : Grw X Y Z B L s M) (ht : Rep X Y Z t L) (e : nxtN X Y Z s t (vol X Y Z) = s) : Rep X Y Z s (rchL L B) := by
  obtain ⟨M', h1, h2, h3⟩ := h.next ht
  rw [e] at h1
  have e2 : M' = M := by rw [← h1.rep.cells, h.rep.cells]
  subst e2
  refine h.rep.congr (rchL_valid ht.valid B) fun c hc => ?_
  rw [rchL_mem]
  refine ⟨h.rch c, fun g => ?_⟩
  induction g with
  | base _ h5 => exact h.sub _ h5
  | step g1 g2 g3 ih => exact h3 _ (ih (ht.valid.inn _ g1.mem)) _ g3 g2
theorem Grw.grow {X Y Z : Int} {B L M : List C} {s t : BitVec 64} (h : Grw X Y Z B L s M) (ht : Rep X Y Z t L) (e : ¬ nxtN X Y Z s t (vol X Y Z) = s) : ∃ M', Grw X Y Z B L (nxtN X Y Z s t (vol X Y Z)) M' ∧ M.length < M'.length := by
  obtain ⟨M', h1, h2, _⟩ := h.next ht
  refine ⟨M', h1, ?_⟩
  have hle := h.rep.valid.len_sub h1.rep.valid h2
  rcases Nat.lt_or_ge M.length M'.length with g | g
  · exact g
  · exact absurd (by
      have := h.rep.valid.eq_len h1.rep.valid h2 g
      subst this
      exact h1.rep.eq h.rep) e

/-! ### The reference's search, cell after cell -/
/-- `q`: the cells found, in the order in which they were found; the first `n` of them have been asked, the neighbours `k` of the next one, too; `M`: what is left; `P`: the first `n` in order. -/
structure Srch (X Y Z : Int) (L : List C) (c0 : C) (q M P : List C) (n : Nat) : Prop where
  vM : Valid X Y Z M
  vP : Valid X Y Z P
  qL : ∀ c ∈ q, c ∈ L
  left : ∀ c, c ∈ M ↔ c ∈ L ∧ c ∉ q
  part : ∀ c, c ∈ P ↔ ∃ j, j < n ∧ j < q.length ∧ at3 q j = c
  rch : ∀ c ∈ q, Rch adjR (fun x => x ∈ L) (fun x => x = c0) c
  cls : ∀ j, j < n → j < q.length → ∀ e ∈ L, adjR (at3 q j) e → e ∈ q
  seed : c0 ∈ q
  nodup : q.Nodup
theorem at3_get {cs : List C} {i : Nat} (h : i < cs.length) : at3 cs i = cs[i] := by simp [at3, List.getD, h]
theorem nodup_len : ∀ {a b : List C}, a.Nodup → (∀ x ∈ a, x ∈ b) → a.length ≤ b.length
  | [], _, _, _ => by simp
  | x :: a, b, ha, h => by
    obtain ⟨h1, h2⟩ := List.nodup_cons.mp ha
    have hx := h x (by simp)
    have h3 := nodup_len (b := b.erase x) h2 (fun y hy => (List.mem_erase_of_ne (fun e => h1 (by rw [← e]; exact hy))).mpr (h y (by simp [hy])))
    rw [List.length_erase_of_mem hx] at h3
    have h4 := List.length_pos_of_mem hx
    simp only [List.length_cons]; omega
theorem at3_app_l {a b : List C} {j : Nat} (h : j < a.length) : at3 (a ++ b) j = at3 a j := by simp [at3, List.getD, List.getElem?_append_left h]
theorem Srch.start {X Y Z : Int} {L : List C} (h : Valid X Y Z L) (hne : 0 < L.length) : Srch X Y Z L (at3 L 0) [at3 L 0] (without L (at3 L 0)) [] 0 := by
  have hm := at3_mem hne
  refine ⟨without_valid h _, valid_nil h.box, fun c hc => by simp at hc; rw [hc]; exact hm, fun c => ?_, fun c => by simp, fun c hc => by simp at hc; rw [hc]; exact .base hm rfl, fun j hj => absurd hj (by omega), by simp, by simp⟩
  simp only [without, List.mem_filter, List.mem_singleton, Bool.not_eq_true', decide_eq_false_iff_not]
/-- The cell `n` is put to the part. -/
theorem Srch.put {X Y Z : Int} {L : List C} {c0 : C} {q M P : List C} {n : Nat} (h : Srch X Y Z L c0 q M P n) (hL : Valid X Y Z L) (hn : n < q.length) :
    Valid X Y Z (withC P (at3 q n)) ∧ ∀ c, c ∈ withC P (at3 q n) ↔ ∃ j, j < n + 1 ∧ j < q.length ∧ at3 q j = c := by
  obtain ⟨h1, h2⟩ := withC_valid h.vP (hL.inn _ (h.qL _ (at3_mem hn)))
  refine ⟨h1, fun c => ?_⟩
  rw [h2, h.part]
  constructor
  · rintro (⟨j, g1, g2, g3⟩ | g)
    · exact ⟨j, by omega, g2, g3⟩
    · exact ⟨n, by omega, hn, g.symm⟩
  · rintro ⟨j, g1, g2, g3⟩
    rcases Nat.lt_or_ge j n with g | g
    · exact .inl ⟨j, g, g2, g3⟩
    · obtain rfl : j = n := by omega
      exact .inr g3.symm
/-- The neighbours of the cell `n` that are left, one after the other. -/
structure Srch2 (X Y Z : Int) (L : List C) (c0 : C) (q M P : List C) (n : Nat) (N : List C) (i : Nat) (q' M' : List C) : Prop where
  vM : Valid X Y Z M'
  eq : q' = q ++ N.take i
  left : ∀ c, c ∈ M' ↔ c ∈ L ∧ c ∉ q'
  nodup : q'.Nodup
theorem Srch2.start {X Y Z : Int} {L : List C} {c0 : C} {q M P : List C} {n : Nat} (h : Srch X Y Z L c0 q M P n) (N : List C) : Srch2 X Y Z L c0 q M P n N 0 q M := ⟨h.vM, by simp, h.left, h.nodup⟩
theorem Srch2.next {X Y Z : Int} {L : List C} {c0 : C} {q M P : List C} {n : Nat} {i : Nat} {q' M' : List C} (h : Srch X Y Z L c0 q M P n) (k : Srch2 X Y Z L c0 q M P n (M.filter (adjF (at3 q n))) i q' M') (hi : i < (M.filter (adjF (at3 q n))).length) :
    Srch2 X Y Z L c0 q M P n (M.filter (adjF (at3 q n))) (i + 1) (q' ++ [at3 (M.filter (adjF (at3 q n))) i]) (without M' (at3 (M.filter (adjF (at3 q n))) i)) := by
  have hm := at3_mem hi
  have hM := (List.mem_filter.mp hm).1
  have hN : (M.filter (adjF (at3 q n))).Nodup := ((h.vM.filter _).rise.imp (fun {a b} hab => (by intro e; subst e; exact Nat.lt_irrefl _ hab) : ∀ {a b : Nat}, a < b → a ≠ b) |> fun x => by
    have := List.pairwise_map.mp x
    exact this.imp fun {a b} hab e => hab (by rw [e]))
  have hnq : at3 (M.filter (adjF (at3 q n))) i ∉ q' := by
    rw [k.eq]
    intro g
    rcases List.mem_append.mp g with g | g
    · exact ((h.left _).mp hM).2 g
    · obtain ⟨j, hj, e⟩ := List.getElem_of_mem g
      rw [List.getElem_take] at e
      have hj' : j < i := by simp at hj; omega
      rw [at3_get hi] at e
      have hjl : j < (M.filter (adjF (at3 q n))).length := by omega
      exact List.pairwise_iff_getElem.mp hN j i hjl hi hj' e
  refine ⟨without_valid k.vM _, by rw [k.eq, take_succ3 hi, List.append_assoc], fun c => ?_, ?_⟩
  · simp only [without, List.mem_filter, k.left, List.mem_append, List.mem_singleton, Bool.not_eq_true', decide_eq_false_iff_not, not_or, and_assoc]
  · rw [List.nodup_append]
    refine ⟨k.nodup, by simp, fun a ha b hb => ?_⟩
    simp at hb; subst hb
    intro e; subst e; exact hnq ha
theorem Srch2.done {X Y Z : Int} {L : List C} {c0 : C} {q M P : List C} {n : Nat} {i : Nat} {q' M' : List C} (h : Srch X Y Z L c0 q M P n) (hL : Valid X Y Z L) (hn : n < q.length) (k : Srch2 X Y Z L c0 q M P n (M.filter (adjF (at3 q n))) i q' M') (hi : i = (M.filter (adjF (at3 q n))).length) :
    Srch X Y Z L c0 q' M' (withC P (at3 q n)) (n + 1) := by
  subst hi
  have eq := k.eq
  rw [List.take_length] at eq
  obtain ⟨p1, p2⟩ := h.put hL hn
  have hat : ∀ j, j < q.length → at3 q' j = at3 q j := fun j hj => by rw [eq]; exact at3_app_l hj
  have hlen : q.length ≤ q'.length := by rw [eq]; simp
  have hN : ∀ c ∈ M.filter (adjF (at3 q n)), c ∈ L ∧ adjR (at3 q n) c := fun c hc => ⟨((h.left c).mp (List.mem_filter.mp hc).1).1, of_decide_eq_true (List.mem_filter.mp hc).2⟩
  refine ⟨k.vM, p1, fun c hc => ?_, k.left, fun c => ?_, fun c hc => ?_, fun j hj hjl e he ha => ?_, by rw [eq]; exact List.mem_append_left _ h.seed, k.nodup⟩
  · rw [eq] at hc
    rcases List.mem_append.mp hc with g | g
    · exact h.qL c g
    · exact (hN c g).1
  · rw [p2]
    constructor
    · rintro ⟨j, g1, g2, g3⟩; exact ⟨j, g1, by omega, by rw [hat j g2]; exact g3⟩
    · rintro ⟨j, g1, g2, g3⟩; exact ⟨j, g1, by omega, by rw [← hat j (by omega)]; exact g3⟩
  · rw [eq] at hc
    rcases List.mem_append.mp hc with g | g
    · exact h.rch c g
    · exact .step (h.rch _ (at3_mem hn)) (hN c g).2 (hN c g).1
  · rw [hat j (by omega)] at ha
    rw [eq]
    rcases Nat.lt_or_ge j n with g | g
    · exact List.mem_append_left _ (h.cls j g (by omega) e he ha)
    · obtain rfl : j = n := by omega
      by_cases hq : e ∈ q
      · exact List.mem_append_left _ hq
      · exact List.mem_append_right _ (List.mem_filter.mpr ⟨(h.left e).mpr ⟨he, hq⟩, decide_eq_true ha⟩)
theorem Srch.all {X Y Z : Int} {L : List C} {c0 : C} {q M P : List C} {n : Nat} (h : Srch X Y Z L c0 q M P n) (hL : Valid X Y Z L) (hn : n = q.length) : P = rchL L [c0] ∧ M = L.filter fun c => !decide (c ∈ rchL L [c0]) := by
  subst hn
  have key : ∀ c, c ∈ q ↔ c ∈ rchL L [c0] := fun c => by
    rw [rchL_mem]
    constructor
    · intro g; exact (h.rch c g).mono fun x hx => by rw [hx]; simp
    · intro g
      induction g with
      | base _ h5 => simp at h5; rw [h5]; exact h.seed
      | step g1 g2 g3 ih =>
        obtain ⟨j, hj, e⟩ := mem_at3 ih
        exact h.cls j hj hj _ g3 (by rw [e]; exact g2)
  constructor
  · refine h.vP.ext (rchL_valid hL _) fun c hc => ?_
    rw [h.part, ← key]
    constructor
    · rintro ⟨j, _, g2, g3⟩; rw [← g3]; exact at3_mem g2
    · intro g; obtain ⟨j, hj, e⟩ := mem_at3 g; exact ⟨j, hj, hj, e⟩
  · refine h.vM.ext (hL.filter _) fun c hc => ?_
    rw [h.left, List.mem_filter]
    simp [key]
theorem Srch.q_len {X Y Z : Int} {L : List C} {c0 : C} {q M P : List C} {n : Nat} (h : Srch X Y Z L c0 q M P n) (hL : Valid X Y Z L) : q.length ≤ L.length := by
  exact nodup_len h.nodup h.qL
theorem Srch2.q_len {X Y Z : Int} {L : List C} {c0 : C} {q M P : List C} {n : Nat} {N : List C} {i : Nat} {q' M' : List C} (h : Srch X Y Z L c0 q M P n) (k : Srch2 X Y Z L c0 q M P n N i q' M') (hN : ∀ c ∈ N, c ∈ L) : q'.length ≤ L.length := by
  refine nodup_len k.nodup fun c hc => ?_
  rw [k.eq] at hc
  rcases List.mem_append.mp hc with g | g
  · exact h.qL c g
  · exact hN c (List.mem_of_mem_take g)
end Go.Sep
/- Functions that make many blocks; rows of rows. -/
namespace Go.Sep
open Go
set_option linter.unusedVariables false
set_option linter.unusedSimpArgs false

variable {P : Program} {N : Nat} {s : St}
/-- Some new blocks. -/
def ext (H : Heap) (n k : Nat) (g : Nat → List Value) : Heap := fun x => if n ≤ x ∧ x < n + k then some (.cells false (g (x - n))) else H x
theorem ext_old {H : Heap} {n k y : Nat} {g : Nat → List Value} {c : Blk} (h : y < n) (hy : H y = some c) : ext H n k g y = some c := by
  unfold ext; rw [if_neg (by omega)]; exact hy
theorem ext_new {H : Heap} {n k i y : Nat} {g : Nat → List Value} (hi : i < k) (hy : y = n + i) : ext H n k g y = some (.cells false (g i)) := by
  subst hy; unfold ext; rw [if_pos ⟨by omega, by omega⟩, Nat.add_sub_cancel_left]
theorem old_ext {H G : Heap} {n m k : Nat} {g : Nat → List Value} (h : ∀ x b, x < n → H x = some b → G x = some b) (hm : n ≤ m) : ∀ x b, x < n → H x = some b → ext G m k g x = some b := fun x b hx hb => ext_old (by omega) (h x b hx hb)
theorem Keeps.ext {U : List Nat} {m n k : Nat} {G0 G : Heap} {g : Nat → List Value} (h : Keeps U m G0 G) (hm : m ≤ n) : Keeps U m G0 (ext G n k g) := fun x hx hu => by
  unfold Go.Sep.ext; rw [if_neg (by omega)]; exact h x hx hu
theorem OldBut.ext {U : List Nat} {n m k : Nat} {H G : Heap} {g : Nat → List Value} (h : OldBut U n H G) (hm : n ≤ m) : OldBut U n H (ext G m k g) := fun x c hx hu hc => ext_old (by omega) (h x c hx hu hc)
theorem Ends.vX {fn : Func} {H : Heap} {n : Nat} {v v' : Value} (k : Nat) (f : Nat → Nat) (bs : Nat → List Value)
    (hle : ∀ x b, x < n → H x = some b → s.H x = some b) (hH : ∀ x, n ≤ x → H x = none) (hf : ∀ j, j < k → n ≤ f j) (hinj : ∀ i j, i < k → j < k → i ≠ j → f i ≠ f j)
    (hb : ∀ j, j < k → s.H (f j) = some (.cells false ((bs j).map (renC (nm n k f))))) (hlt : ∀ j, j < k → (bs j).all (ltC (n + k)) = true)
    (hv : ltT (n + k) v = true) (hres : resOf P s fn.results.toList = some v') (he : v' = renT (nm n k f) v) : Ends P fn H n s v (ext H n k bs) (n + k) :=
  Ends.gen k f bs (fun x b hx => by
    unfold ext at hx
    split at hx
    · rename_i h; exact .inr ⟨h.1, h.2, (Option.some.inj hx).symm⟩
    · refine .inl ⟨?_, hx⟩
      rcases Nat.lt_or_ge x n with g | g
      · exact g
      · rw [hH x g] at hx; simp at hx) hle hf hinj hb hlt hv hres he
section drawnX
variable {ops : Array Oper} {r : List Oper} {K : St → Prop} {ts : Temps} {H : Heap} {n : Nat} {t : Tmp} {op : Op} {ty : TypeId} {pos : String} {after : Array Edge} {gd : Option (Nat × Bool)} {v : Value} {m j : Nat} {ms : List Nat} {acc : List (Nat × Foot)}
/-- A drawn call that makes some blocks. -/
theorem dCX {f : FuncId} {args : List Value} {k : Nat} {g : Nat → List Value} (hd : okDst N (some t) = true) (hw : wantC ops ⟨some t, op, ty, pos, after, gd⟩ ts = some true) (hkd : kindOf op ts = .eff 0 0 []) (hc : calleeOf ts op = some (f, args))
    (hf : Fn P f args (hide (hidden m acc) n H) n v (ext (hide (hidden m acc) n H) n k g) (n + k)) (ha : accOk m (.eff n (n + k) []) acc) (hu : ∀ x ∈ hidden m acc, x < n)
    (hk : wopsD P N ops r ms (j + 1) ((j, .eff n (n + k) []) :: acc) ⟨(t, v) :: ts, ext H n k g, n + k⟩ K) : wopsD P N ops (⟨some t, op, ty, pos, after, gd⟩ :: r) (m :: ms) j acc ⟨ts, H, n⟩ K := by
  simp only [wopsD, hd, hw, hkd, putT]
  refine ⟨trivial, [], by simp, ?_⟩
  simp only [stepOp, hc]
  refine ⟨v, _, n + k, hf, by omega, fun y hy _ hu => by unfold ext hide; rw [if_neg (by omega), if_pos ⟨hy, hu⟩], ha, ?_⟩
  have : unhide (hidden m acc) (n + k) H (ext (hide (hidden m acc) n H) n k g) = ext H n k g := by
    funext y
    unfold unhide ext
    by_cases h1 : n ≤ y ∧ y < n + k
    · rw [if_pos h1, if_pos h1, if_pos ⟨h1.2, fun hh => by have := hu y hh; omega⟩]
    · rw [if_neg h1, if_neg h1]
      split
      · rename_i hh
        unfold hide
        rw [if_pos ⟨by omega, hh.2⟩]
      · rfl
  rw [this]; exact hk
end drawnX

/-! ### Rows of rows -/
/-- A row's slice, in a table. -/
def tabV (Q : Nat → Nat) (w : Nat) (ln : Nat → Nat) (k : Nat) : List Value := (List.range k).map fun i => .slice (some ⟨Q i, 0, none⟩) (ln i) w
theorem tabV_zero (Q : Nat → Nat) (w : Nat) (ln : Nat → Nat) : tabV Q w ln 0 = [] := rfl
theorem tabV_length (Q : Nat → Nat) (w : Nat) (ln : Nat → Nat) (k : Nat) : (tabV Q w ln k).length = k := by simp [tabV]
theorem tabV_at {Q : Nat → Nat} {w : Nat} {ln : Nat → Nat} {k i : Nat} (h : i < k) : (tabV Q w ln k)[0 + i * 1]? = some (.slice (some ⟨Q i, 0, none⟩) (ln i) w) := by simp [tabV, h]
theorem tabV_congr {Q Q' : Nat → Nat} {w : Nat} {ln ln' : Nat → Nat} {k : Nat} (h : ∀ i, i < k → Q i = Q' i ∧ ln i = ln' i) : tabV Q w ln k = tabV Q' w ln' k :=
  List.map_congr_left fun i hi => by obtain ⟨h1, h2⟩ := h i (by simpa using hi); rw [h1, h2]
def updQ (Q : Nat → Nat) (d q : Nat) : Nat → Nat := fun k => if k = d then q else Q k
theorem updQ_same (Q : Nat → Nat) (d q : Nat) : updQ Q d q d = q := if_pos rfl
theorem updQ_ne {Q : Nat → Nat} {d q k : Nat} (h : k ≠ d) : updQ Q d q k = Q k := if_neg h
theorem tabV_snoc {Q : Nat → Nat} {w : Nat} {ln : Nat → Nat} {k q m : Nat} (h : m = ln k) : tabV Q w ln k ++ [.slice (some ⟨q, 0, none⟩) m w] = tabV (updQ Q k q) w ln (k + 1) := by
  subst h
  have e : tabV (updQ Q k q) w ln (k + 1) = tabV (updQ Q k q) w ln k ++ [.slice (some ⟨updQ Q k q k, 0, none⟩) (ln k) w] := by simp [tabV, List.range_succ]
  rw [e, updQ_same]
  congr 1
  exact tabV_congr fun i hi => ⟨(updQ_ne (by omega)).symm, rfl⟩
/-- The canonical table: its rows behind it. -/
def tabG (n w : Nat) (ln : Nat → Nat) (k : Nat) (row : Nat → List Value) : Nat → List Value
  | 0 => tabV (fun i => n + 1 + i) w ln k
  | i + 1 => row i
theorem tab_look0 {H : Heap} {n w k m : Nat} {ln : Nat → Nat} {row : Nat → List Value} (hm : m = 1 + k) : ext H n m (tabG n w ln k row) n = some (.cells false (tabV (fun i => n + 1 + i) w ln k)) := ext_new (i := 0) (by omega) (by omega)
theorem tab_lookR {H : Heap} {n w k m i : Nat} {ln : Nat → Nat} {row : Nat → List Value} (hm : m = 1 + k) (hi : i < k) : ext H n m (tabG n w ln k row) (n + 1 + i) = some (.cells false (row i)) := ext_new (i := i + 1) (by omega) (by omega)
/-- The end of a body that makes a table. -/
theorem Ends.vT {fn : Func} {H : Heap} {n w k T : Nat} {v v' : Value} {ln : Nat → Nat} {row : Nat → List Value} {Q : Nat → Nat} {cs : List Value} (hT : n ≤ T) (hQ : ∀ i, i < k → n ≤ Q i ∧ Q i ≠ T ∧ s.H (Q i) = some (.cells false (row i))) (hD : ∀ i j, i < k → j < k → i ≠ j → Q i ≠ Q j)
    (hle : ∀ x b, x < n → H x = some b → s.H x = some b) (hH : ∀ x, n ≤ x → H x = none) (hb : s.H T = some (.cells false cs)) (hcs : cs = tabV Q w ln k) (hp : ∀ i, i < k → (row i).all plainA = true)
    (hv : ltT (n + (1 + k)) v = true) (hres : resOf P s fn.results.toList = some v') (he : ∀ ρ : Nat → Nat, ρ n = T → v' = renT ρ v) : Ends P fn H n s v (ext H n (1 + k) (tabG n w ln k row)) (n + (1 + k)) := by
  subst hcs
  let f : Nat → Nat := fun j => if j = 0 then T else Q (j - 1)
  have f0 : f 0 = T := rfl
  have fS : ∀ i, f (i + 1) = Q i := fun i => by show (if i + 1 = 0 then T else Q (i + 1 - 1)) = Q i; rw [if_neg (by omega), Nat.add_sub_cancel]
  have hnm : ∀ i, i < k → nm n (1 + k) f (n + 1 + i) = Q i := fun i hi => by
    simp only [nm]
    rw [if_neg (by omega), if_pos (by omega), show n + 1 + i - n = i + 1 by omega, fS]
  have split : ∀ j, j < 1 + k → j = 0 ∨ ∃ i, i < k ∧ j = i + 1 := fun j hj => by
    rcases Nat.eq_zero_or_pos j with e | e
    · exact .inl e
    · exact .inr ⟨j - 1, by omega, by omega⟩
  refine Ends.vX (1 + k) f (tabG n w ln k row) hle hH (fun j hj => ?_) (fun i j hi hj hij => ?_) (fun j hj => ?_) (fun j hj => ?_) hv hres (he _ (by simp only [nm]; rw [if_neg (by omega), if_pos (by omega), Nat.sub_self, f0]))
  · rcases split j hj with rfl | ⟨i, hi, rfl⟩
    · exact hT
    · rw [fS]; exact (hQ i hi).1
  · rcases split i hi with rfl | ⟨a, ha, rfl⟩ <;> rcases split j hj with rfl | ⟨b, hb, rfl⟩
    · exact absurd rfl hij
    · rw [f0, fS]; exact fun e => (hQ b hb).2.1 e.symm
    · rw [f0, fS]; exact (hQ a ha).2.1
    · rw [fS, fS]; exact hD a b ha hb (by omega)
  · rcases split j hj with rfl | ⟨i, hi, rfl⟩
    · rw [f0, hb]
      congr 2
      unfold tabG tabV
      rw [List.map_map]
      refine List.map_congr_left fun i hi => ?_
      simp only [Function.comp, renC, renA]
      rw [hnm i (by simpa using hi)]
    · rw [fS, (hQ i hi).2.2]
      exact congrArg some (congrArg (Blk.cells false) (plain_ren (hp i hi) 0).1)
  · rcases split j hj with rfl | ⟨i, hi, rfl⟩
    · simp only [tabG, tabV, List.all_eq_true, List.mem_map, List.mem_range]
      rintro v ⟨i, hi, rfl⟩
      simp [ltC, ltA]; omega
    · exact (plain_ren (ρ := id) (hp i hi) _).2
end Go.Sep
/- Parts, standing cubes. -/
namespace Go.Sep
open Go
set_option linter.unusedVariables false
set_option linter.unusedSimpArgs false

noncomputable def restL (L : List C) : List C := L.filter fun c => !decide (c ∈ rchL L [at3 L 0])
noncomputable def leftN (L : List C) : Nat → List C
  | 0 => L
  | k + 1 => restL (leftN L k)
noncomputable def partN (L : List C) (k : Nat) : List C := rchL (leftN L k) [at3 (leftN L k) 0]
noncomputable def partsK (L : List C) (k : Nat) : List (List C) := (List.range k).map (partN L)
noncomputable def partsF : Nat → List C → List (List C)
  | 0, _ => []
  | f + 1, L => if L = [] then [] else rchL L [at3 L 0] :: partsF f (restL L)
noncomputable def partsL (L : List C) : List (List C) := partsF L.length L
theorem restL_valid {X Y Z : Int} {L : List C} (h : Valid X Y Z L) : Valid X Y Z (restL L) := h.filter _
theorem leftN_valid {X Y Z : Int} {L : List C} (h : Valid X Y Z L) : ∀ k, Valid X Y Z (leftN L k)
  | 0 => h
  | k + 1 => restL_valid (leftN_valid h k)
theorem partN_valid {X Y Z : Int} {L : List C} (h : Valid X Y Z L) (k : Nat) : Valid X Y Z (partN L k) := rchL_valid (leftN_valid h k) _
theorem head_rch {L : List C} (h : 0 < L.length) : at3 L 0 ∈ rchL L [at3 L 0] := rchL_mem.mpr (.base (at3_mem h) (by simp))
theorem restL_len {L : List C} (h : 0 < L.length) : (restL L).length < L.length := by
  unfold restL
  exact List.length_filter_lt_length_iff_exists.mpr ⟨_, at3_mem h, by rw [decide_eq_true (head_rch h)]; decide⟩
theorem leftN_len {L : List C} : ∀ k, (∀ j, j < k → 0 < (leftN L j).length) → (leftN L k).length + k ≤ L.length
  | 0, _ => by simp [leftN]
  | k + 1, h => by
    have ih := leftN_len k fun j hj => h j (by omega)
    have := restL_len (h k (by omega))
    simp only [leftN]; omega
theorem leftN_shift (L : List C) : ∀ k, leftN L (k + 1) = leftN (restL L) k
  | 0 => rfl
  | k + 1 => by simp only [leftN]; rw [← leftN_shift L k]; rfl
theorem partN_shift (L : List C) (k : Nat) : partN L (k + 1) = partN (restL L) k := by unfold partN; rw [leftN_shift]
theorem partsK_succ (L : List C) (k : Nat) : partsK L (k + 1) = partsK L k ++ [partN L k] := by simp [partsK, List.range_succ]
theorem parts_end : ∀ (k f : Nat) (L : List C), k ≤ f → (leftN L k).length = 0 → (∀ j, j < k → 0 < (leftN L j).length) → partsF f L = partsK L k
  | 0, f, L, _, h0, _ => by
    have : L = [] := List.eq_nil_of_length_eq_zero h0
    subst this
    cases f with
    | zero => rfl
    | succ f => simp [partsF, partsK]
  | k + 1, f, L, hf, h0, hj => by
    obtain ⟨f, rfl⟩ : ∃ g, f = g + 1 := ⟨f - 1, by omega⟩
    have hne : L ≠ [] := fun e => by have := hj 0 (by omega); subst e; simp [leftN] at this
    have ih := parts_end k f (restL L) (by omega) (by rw [← leftN_shift]; exact h0) fun j hjk => by rw [← leftN_shift]; exact hj (j + 1) (by omega)
    simp only [partsF]
    rw [if_neg hne, ih]
    unfold partsK
    rw [List.range_succ_eq_map, List.map_cons, List.map_map]
    congr 1
    refine List.map_congr_left fun j _ => ?_
    simp only [Function.comp, Nat.succ_eq_add_one]
    exact (partN_shift L j).symm
theorem partsL_end {L : List C} {k : Nat} (h0 : (leftN L k).length = 0) (hj : ∀ j, j < k → 0 < (leftN L j).length) : partsL L = partsK L k :=
  parts_end k _ L (by have := leftN_len k hj; omega) h0 hj
/-- What is left is closed. -/
theorem leftN_sub (L : List C) : ∀ k, ∀ c ∈ leftN L k, c ∈ L
  | 0, c, h => h
  | k + 1, c, h => leftN_sub L k c (List.mem_filter.mp h).1
theorem leftN_closed (L : List C) : ∀ k, ∀ c ∈ leftN L k, ∀ e ∈ L, adjR c e → e ∈ leftN L k
  | 0, c, hc, e, he, _ => he
  | k + 1, c, hc, e, he, ha => by
    simp only [leftN, restL, List.mem_filter, Bool.not_eq_true', decide_eq_false_iff_not] at hc ⊢
    have h1 := leftN_closed L k c hc.1 e he ha
    refine ⟨h1, fun g => hc.2 ?_⟩
    rw [rchL_mem] at g ⊢
    exact .step g (adjR_symm _ _ ha) hc.1
theorem rch_left {L : List C} {k : Nat} {c e : C} (hc : c ∈ leftN L k) (h : Rch adjR (fun x => x ∈ L) (fun x => x = c) e) : Rch adjR (fun x => x ∈ leftN L k) (fun x => x = c) e := by
  induction h with
  | base _ h2 => subst h2; exact .base hc rfl
  | step _ h2 h3 ih => exact .step ih h2 (leftN_closed L k _ ih.mem _ h3 h2)
/-- A part is all to which neighbours lead from one of its cells. -/
theorem partN_iff {L : List C} {k : Nat} {c e : C} (hc : c ∈ partN L k) : e ∈ partN L k ↔ Rch adjR (fun x => x ∈ L) (fun x => x = c) e := by
  unfold partN at *
  rw [rchL_mem] at *
  have h0 : Rch adjR (fun x => x ∈ leftN L k) (fun x => x = at3 (leftN L k) 0) c := hc.mono fun x hx => by simpa using hx
  constructor
  · intro h
    have h1 : Rch adjR (fun x => x ∈ leftN L k) (fun x => x = at3 (leftN L k) 0) e := h.mono fun x hx => by simpa using hx
    exact (h0.symm adjR_symm).trans h1 |>.congr (fun x hx => leftN_sub L k x hx) fun x _ hx => hx
  · intro h
    have h1 := rch_left hc.mem h
    exact (h0.trans h1).mono fun x hx => by simp [hx]
theorem left_or_part {L : List C} {c : C} (hc : c ∈ L) : ∀ k, c ∈ leftN L k ∨ ∃ j, j < k ∧ c ∈ partN L j
  | 0 => .inl hc
  | k + 1 => by
    rcases left_or_part hc k with h | ⟨j, h1, h2⟩
    · by_cases g : c ∈ partN L k
      · exact .inr ⟨k, by omega, g⟩
      · refine .inl ?_
        simp only [leftN, restL, List.mem_filter, Bool.not_eq_true', decide_eq_false_iff_not]
        exact ⟨h, g⟩
    · exact .inr ⟨j, by omega, h2⟩
theorem partN_sub {L : List C} {k : Nat} {c : C} (h : c ∈ partN L k) : c ∈ L := leftN_sub L k c (by unfold partN at h; exact (rchL_mem.mp h).mem)

/-! ### Standing cubes -/
def flrF (c : C) : Bool := decide (c.2.2 = 0)
noncomputable def stand (L : List C) : List C := rchL L (L.filter flrF)
theorem stand_mem {L : List C} {c : C} : c ∈ stand L ↔ ∃ e ∈ L, e.2.2 = 0 ∧ Rch adjR (fun x => x ∈ L) (fun x => x = e) c := by
  unfold stand
  rw [rchL_mem]
  constructor
  · intro h
    obtain ⟨e, h1, h2, h3⟩ := h.from
    exact ⟨e, h1, by simpa [flrF] using (List.mem_filter.mp h2).2, h3⟩
  · rintro ⟨e, h1, h2, h3⟩
    exact h3.mono fun x hx => by subst hx; exact List.mem_filter.mpr ⟨h1, by simpa [flrF] using h2⟩
theorem part_stand {L : List C} {k : Nat} {c : C} (hc : c ∈ partN L k) : c ∈ stand L ↔ ∃ e ∈ partN L k, e.2.2 = 0 := by
  rw [stand_mem]
  constructor
  · rintro ⟨e, h1, h2, h3⟩
    exact ⟨e, (partN_iff hc).mpr (h3.symm adjR_symm), h2⟩
  · rintro ⟨e, h1, h2⟩
    exact ⟨e, partN_sub h1, h2, ((partN_iff hc).mp h1).symm adjR_symm⟩
theorem stand_valid {X Y Z : Int} {L : List C} (h : Valid X Y Z L) : Valid X Y Z (stand L) := rchL_valid h _
theorem stand_sub {L : List C} {c : C} (h : c ∈ stand L) : c ∈ L := by unfold stand at h; exact (rchL_mem.mp h).mem
/-- The cubes that stand, or those that hang. -/
noncomputable def partedL (L : List C) (hang : Bool) : List C := L.filter fun c => decide (c ∈ stand L) != hang
theorem parted_F {X Y Z : Int} {L : List C} (h : Valid X Y Z L) : partedL L false = stand L :=
  (h.filter _).ext (stand_valid h) fun c hc => by
    rw [List.mem_filter]
    constructor
    · intro g; have := g.2; simpa using this
    · intro g; exact ⟨stand_sub g, by simpa using g⟩
theorem parted_T (L : List C) : partedL L true = L.filter fun c => !decide (c ∈ stand L) := by unfold partedL; simp
/-- The reference's way: part after part. -/
structure Ptd (X Y Z : Int) (L : List C) (hang : Bool) (k : Nat) (O : List C) : Prop where
  valid : Valid X Y Z O
  mem : ∀ c, c ∈ O ↔ (∃ j, j < k ∧ c ∈ partN L j) ∧ (decide (c ∈ stand L) != hang) = true
theorem Ptd.start {X Y Z : Int} {L : List C} (hX : Box X Y Z) (hang : Bool) : Ptd X Y Z L hang 0 [] := ⟨valid_nil hX, fun c => by simp⟩
/-- Some cells of a part put in. -/
structure Ptd2 (X Y Z : Int) (L : List C) (O : List C) (k i : Nat) (O' : List C) : Prop where
  valid : Valid X Y Z O'
  mem : ∀ c, c ∈ O' ↔ c ∈ O ∨ ∃ j, j < i ∧ j < (partN L k).length ∧ at3 (partN L k) j = c
theorem Ptd2.start {X Y Z : Int} {L O : List C} {k : Nat} (h : Valid X Y Z O) : Ptd2 X Y Z L O k 0 O := ⟨h, fun c => by simp⟩
theorem Ptd2.next {X Y Z : Int} {L O O' : List C} {k i : Nat} (hL : Valid X Y Z L) (h : Ptd2 X Y Z L O k i O') (hi : i < (partN L k).length) : Ptd2 X Y Z L O k (i + 1) (withC O' (at3 (partN L k) i)) := by
  obtain ⟨h1, h2⟩ := withC_valid h.valid ((partN_valid hL k).inn _ (at3_mem hi))
  refine ⟨h1, fun c => ?_⟩
  rw [h2, h.mem]
  constructor
  · rintro ((g | ⟨j, g1, g2, g3⟩) | g)
    · exact .inl g
    · exact .inr ⟨j, by omega, g2, g3⟩
    · exact .inr ⟨i, by omega, hi, g.symm⟩
  · rintro (g | ⟨j, g1, g2, g3⟩)
    · exact .inl (.inl g)
    · rcases Nat.lt_or_ge j i with g | g
      · exact .inl (.inr ⟨j, g, g2, g3⟩)
      · obtain rfl : j = i := by omega
        exact .inr g3.symm
/-- Has the first cells of a part one on the floor? -/
def flrN (L : List C) (i : Nat) : Bool := (L.take i).any flrF
theorem flrN_zero (L : List C) : flrN L 0 = false := by simp [flrN]
theorem flrN_succ {L : List C} {i : Nat} (h : i < L.length) : flrN L (i + 1) = (flrN L i || decide ((at3 L i).2.2 = 0)) := by
  unfold flrN; rw [take_succ3 h, List.any_append]; simp [flrF]
theorem flr_stand {L : List C} {k : Nat} {c : C} (hc : c ∈ partN L k) : decide (c ∈ stand L) = flrN (partN L k) (partN L k).length := by
  unfold flrN
  rw [List.take_length, Bool.eq_iff_iff, decide_eq_true_eq, part_stand hc, List.any_eq_true]
  simp [flrF]
theorem Ptd.step {X Y Z : Int} {L O O' : List C} {hang : Bool} {k i : Nat} (h : Ptd X Y Z L hang k O) (h2 : Ptd2 X Y Z L O k i O') (hi : (i = (partN L k).length ∧ (flrN (partN L k) (partN L k).length != hang) = true) ∨ (i = 0 ∧ (flrN (partN L k) (partN L k).length != hang) = false)) : Ptd X Y Z L hang (k + 1) O' := by
  refine ⟨h2.valid, fun c => ?_⟩
  rw [h2.mem, h.mem]
  constructor
  · rintro (⟨⟨j, g1, g2⟩, g3⟩ | ⟨j, g1, g2, g3⟩)
    · exact ⟨⟨j, by omega, g2⟩, g3⟩
    · rcases hi with ⟨_, e⟩ | ⟨e, _⟩
      · have hm : c ∈ partN L k := by rw [← g3]; exact at3_mem g2
        exact ⟨⟨k, by omega, hm⟩, by rw [flr_stand hm]; exact e⟩
      · omega
  · rintro ⟨⟨j, g1, g2⟩, g3⟩
    rcases Nat.lt_or_ge j k with g | g
    · exact .inl ⟨⟨j, g, g2⟩, g3⟩
    · obtain rfl : j = k := by omega
      rcases hi with ⟨e, _⟩ | ⟨_, e⟩
      · obtain ⟨m, hm, em⟩ := mem_at3 g2
        exact .inr ⟨m, by omega, hm, em⟩
      · rw [flr_stand g2, e] at g3; simp at g3
theorem Ptd.all {X Y Z : Int} {L O : List C} {hang : Bool} {k : Nat} (hL : Valid X Y Z L) (h : Ptd X Y Z L hang k O) (h0 : (leftN L k).length = 0) : O = partedL L hang := by
  refine h.valid.ext (hL.filter _) fun c hc => ?_
  rw [h.mem, partedL, List.mem_filter]
  constructor
  · rintro ⟨⟨j, _, g⟩, g2⟩; exact ⟨partN_sub g, g2⟩
  · rintro ⟨g, g2⟩
    refine ⟨?_, g2⟩
    rcases left_or_part g k with e | e
    · have : leftN L k = [] := List.eq_nil_of_length_eq_zero h0
      rw [this] at e; simp at e
    · exact e
/-- All cubes stand. -/
noncomputable def stdB (L : List C) : Bool := decide ((partedL L true).length = 0)
theorem stdB_iff {X Y Z : Int} {L : List C} (h : Valid X Y Z L) : stdB L = true ↔ stand L = L := by
  unfold stdB
  rw [decide_eq_true_eq, List.length_eq_zero_iff, parted_T, List.filter_eq_nil_iff]
  constructor
  · intro g
    refine (stand_valid h).ext h fun c _ => ⟨stand_sub, fun hc => ?_⟩
    have := g c hc
    simpa using this
  · intro g c hc
    rw [g]; simp [hc]
theorem stand_mask {X Y Z : Int} {L : List C} (h : Valid X Y Z L) : decide (mask Y Z (stand L) = mask Y Z L) = stdB L := by
  rw [Bool.eq_iff_iff, decide_eq_true_eq, stdB_iff h]
  exact (rep_mask (stand_valid h)).eq_iff (rep_mask h)
/-- A cube can be taken. -/
noncomputable def canB (L : List C) (c : C) : Bool := decide (c ∈ L) && stdB (without L c)
theorem Rep.toMask {X Y Z : Int} {s : BitVec 64} {L : List C} (h : Rep X Y Z s L) : s = mask Y Z L := h.eq (rep_mask h.valid)
/-- The lowest bit: the first cell. -/
theorem low_bit {s : BitVec 64} {i : Nat} (hi : i < 64) (h1 : s.getLsbD i = true) (h2 : ∀ j, j < i → s.getLsbD j = false) : s &&& -s = 1#64 <<< i := by
  apply BitVec.eq_of_getLsbD_eq
  intro j hj
  rw [BitVec.getLsbD_and, BitVec.getLsbD_neg, bit_get hj]
  rcases Nat.lt_or_ge j i with g | g
  · have : ¬ j = i := by omega
    simp [h2 j g, this]
  · rcases Nat.eq_or_lt_of_le g with e | g
    · subst e
      have : ¬ ∃ k, k < i ∧ s.getLsbD k = true := by rintro ⟨k, hk, e⟩; rw [h2 k hk] at e; simp at e
      simp [h1, this, hi]
    · have h3 : ∃ k, k < j ∧ s.getLsbD k = true := ⟨i, g, h1⟩
      have : ¬ j = i := by omega
      cases h : s.getLsbD j <;> simp [h3, this, hj]
theorem rep_low {X Y Z : Int} {s : BitVec 64} {L : List C} (h : Rep X Y Z s L) (hne : 0 < L.length) : s &&& -s = 1#64 <<< cellIx Y Z (at3 L 0) := by
  have hX := h.valid.box
  have hm := at3_mem hne
  have hin := h.valid.inn _ hm
  refine low_bit (cellIx_lt64 hX hin) ((h.mem _ hin).mpr hm) fun j hj => ?_
  cases e : s.getLsbD j with
  | false => rfl
  | true =>
    exfalso
    have h64 := cellIx_lt64 hX hin
    have hjv := h.top j (by omega) e
    have hc := cellAt_in hX hjv
    have h2 := (h.mem _ hc).mp (by rw [ix_cellAt hX hjv]; exact e)
    obtain ⟨k, hk, e2⟩ := mem_at3 h2
    rcases Nat.eq_zero_or_pos k with g | g
    · subst g; rw [e2, ix_cellAt hX hjv] at hj; omega
    · have := ix_mono h.valid g hk
      rw [e2, ix_cellAt hX hjv] at this; omega
theorem parts_ex : ∀ (m : Nat) (L : List C), L.length ≤ m → ∃ k, (leftN L k).length = 0 ∧ ∀ j, j < k → 0 < (leftN L j).length
  | 0, L, h => ⟨0, by simp only [leftN]; omega, fun j hj => absurd hj (by omega)⟩
  | m + 1, L, h => by
    rcases Nat.eq_zero_or_pos L.length with e | e
    · exact ⟨0, by simp only [leftN]; omega, fun j hj => absurd hj (by omega)⟩
    · obtain ⟨k, h1, h2⟩ := parts_ex m (restL L) (by have := restL_len e; omega)
      refine ⟨k + 1, by rw [leftN_shift]; exact h1, fun j hj => ?_⟩
      cases j with
      | zero => exact e
      | succ j => rw [leftN_shift]; exact h2 j (by omega)
/-- How many parts there are. -/
noncomputable def prtN (L : List C) : Nat := (partsL L).length
theorem prtN_end {L : List C} {k : Nat} (h0 : (leftN L k).length = 0) (hj : ∀ j, j < k → 0 < (leftN L j).length) : prtN L = k := by
  unfold prtN; rw [partsL_end h0 hj]; simp [partsK]
theorem prtN_left (L : List C) : (leftN L (prtN L)).length = 0 ∧ ∀ j, j < prtN L → 0 < (leftN L j).length := by
  obtain ⟨k, h1, h2⟩ := parts_ex _ L (Nat.le_refl _)
  rw [prtN_end h1 h2]; exact ⟨h1, h2⟩
theorem prtN_le (L : List C) : prtN L ≤ L.length := by
  have := leftN_len (prtN L) (prtN_left L).2; omega
theorem Ptd.step2 {X Y Z : Int} {L O O' : List C} {hang : Bool} {k i : Nat} (h : Ptd X Y Z L hang k O) (h2 : Ptd2 X Y Z L O k i O') (ha : i = (partN L k).length ∨ (flrN (partN L k) (partN L k).length != hang) = false) (hb : i = 0 ∨ (flrN (partN L k) (partN L k).length != hang) = true) : Ptd X Y Z L hang (k + 1) O' := by
  refine h.step h2 ?_
  cases e : (flrN (partN L k) (partN L k).length != hang) with
  | true => exact .inl ⟨ha.resolve_right (by rw [e]; simp), rfl⟩
  | false => exact .inr ⟨hb.resolve_right (by rw [e]; simp), rfl⟩
theorem Rep.those_inter {X Y Z : Int} {s : BitVec 64} {L : List C} (h : Rep X Y Z s L) (f : C → Bool) : Rep X Y Z (s &&& thoseTo Y Z f (vol X Y Z)) (L.filter f) := by
  have hX := h.valid.box
  refine (h.inter (rep_those hX f)).congr (h.valid.filter f) fun c hc => ?_
  simp only [List.mem_filter, decide_eq_true_eq, allC_mem hX]
  exact ⟨fun g => ⟨g.1, g.2.2⟩, fun g => ⟨g.1, hc, g.2⟩⟩
theorem parts_row {L : List C} {k : Nat} (h : k < prtN L) : (partN L k).length ≤ L.length := by
  have h1 : (partN L k).length ≤ (leftN L k).length := by unfold partN rchL; exact List.length_filter_le _ _
  have h2 := leftN_len k fun j hj => (prtN_left L).2 j (by omega)
  omega
theorem std_dec (L : List C) : decide ((((partedL L true).length : Nat) : Int) = 0) = stdB L := by
  unfold stdB; rw [decide_eq_decide]; omega
theorem canB_no {L : List C} {c : C} (h : ¬ c ∈ L) : canB L c = false := by unfold canB; rw [decide_eq_false h, Bool.false_and]
theorem canB_yes {L : List C} {c : C} (h : c ∈ L) : canB L c = stdB (without L c) := by unfold canB; rw [decide_eq_true h, Bool.true_and]
theorem key_cells {X Y Z : Int} {cs : List C} (hv : Valid X Y Z cs) : cellsOf X Y Z (mask Y Z cs &&& ~~~ thoseTo Y Z (canB cs) (vol X Y Z)) = cs.filter fun c => !canB cs c := by
  have hX := hv.box
  refine (((rep_mask hv).diff (rep_those hX (canB cs))).congr (hv.filter _) fun c hc => ?_).cells
  refine ⟨fun g => ?_, fun g => ?_⟩
  · obtain ⟨g1, g2⟩ := List.mem_filter.mp g
    refine List.mem_filter.mpr ⟨g1, ?_⟩
    cases e : canB cs c with
    | false => rfl
    | true => rw [decide_eq_true (List.mem_filter.mpr ⟨(allC_mem hX).mpr hc, e⟩)] at g2; simp at g2
  · obtain ⟨g1, g2⟩ := List.mem_filter.mp g
    refine List.mem_filter.mpr ⟨g1, ?_⟩
    rw [decide_eq_false (fun h => by rw [(List.mem_filter.mp h).2] at g2; simp at g2)]; rfl
/-- Can the cubes be taken in this order? -/
noncomputable def tkB : List C → List C → Bool
  | L, [] => decide (L = [])
  | L, c :: l => canB L c && tkB (without L c) l
theorem tkB_step {L ds : List C} {i : Nat} (h : i < ds.length) : tkB L (ds.drop i) = (canB L (at3 ds i) && tkB (without L (at3 ds i)) (ds.drop (i + 1))) := by
  rw [drop_getD h]; rfl
theorem tkB_end {L ds : List C} {i : Nat} (h : ds.length ≤ i) : tkB L (ds.drop i) = decide ((L.length : Int) = 0) := by
  rw [List.drop_eq_nil_of_le h]
  simp only [tkB, decide_eq_decide]
  rw [← List.length_eq_zero_iff]; omega
theorem tkB_endS {X Y Z : Int} {s : BitVec 64} {L ds : List C} {i : Nat} (hr : Rep X Y Z s L) (h : ds.length ≤ i) : tkB L (ds.drop i) = decide (s = 0#64) := by
  rw [List.drop_eq_nil_of_le h]
  simp only [tkB, decide_eq_decide]
  exact hr.zero_iff.symm
end Go.Sep
/- Pieces: where they fit. -/
namespace Go.Sep
open Go
set_option linter.unusedVariables false
set_option linter.unusedSimpArgs false

/-- All cells of a box, as a set. -/
theorem full_get {v j : Nat} (hv : 1 ≤ v ∧ v ≤ 64) (hj : j < 64) : ((1#64 : BitVec 64) <<< v - 1#64).getLsbD j = decide (j < v) := by
  have e : ((1#64 : BitVec 64) <<< v - 1#64).toNat = 2 ^ v - 1 := by
    rw [BitVec.toNat_sub, BitVec.toNat_shiftLeft]
    simp only [BitVec.toNat_ofNat, Nat.shiftLeft_eq]
    rcases Nat.lt_or_ge v 64 with g | g
    · have h1 : 2 ^ v < 2 ^ 64 := Nat.pow_lt_pow_right (by omega) g
      have h2 : 0 < 2 ^ v := Nat.pow_pos (by omega)
      simp
      omega
    · obtain rfl : v = 64 := by omega
      decide
  unfold BitVec.getLsbD
  rw [e, Nat.testBit_two_pow_sub_one]
theorem rep_full {X Y Z : Int} (hX : Box X Y Z) : Rep X Y Z ((1#64 : BitVec 64) <<< vol X Y Z - 1#64) (allC X Y Z) :=
  ⟨allC_valid hX, fun c hc => by rw [full_get (vol_le hX) (cellIx_lt64 hX hc), allC_mem hX]; exact ⟨fun _ => hc, fun _ => decide_eq_true (cellIx_lt hX hc)⟩, fun j hj g => by
    rw [full_get (vol_le hX) hj] at g; simpa using g⟩
/-- All cells without cubes. -/
def freeL (X Y Z : Int) (cs : List C) : List C := (allC X Y Z).filter fun c => !decide (c ∈ cs)
theorem rep_free {X Y Z : Int} {cs : List C} (hv : Valid X Y Z cs) : Rep X Y Z (((1#64 : BitVec 64) <<< vol X Y Z - 1#64) &&& ~~~ mask Y Z cs) (freeL X Y Z cs) := (rep_full hv.box).diff (rep_mask hv)
theorem free_has {X Y Z : Int} {cs : List C} (hv : Valid X Y Z cs) {c : C} (hc : In X Y Z c) : (((1#64 : BitVec 64) <<< vol X Y Z - 1#64) &&& ~~~ mask Y Z cs).getLsbD (cellIx Y Z c) = !decide (c ∈ cs) := by
  rw [(rep_free hv).has hc]
  simp [freeL, List.mem_filter, (allC_mem hv.box).mpr hc]

/-! ### Pieces -/
def in3 (c : C) : Bool := within c.1 0 3 && within c.2.1 0 3 && within c.2.2 0 3
def pOk (ps : List C) (j : Nat) : Bool := in3 (at3 ps j) && (decide (j = 0) || before (at3 ps (j - 1)) (at3 ps j))
def pieceB (ps : List C) : Bool := decide (1 ≤ ps.length ∧ ps.length ≤ 5) && (List.range ps.length).all (pOk ps) && decide (lowN ps ps.length = (0, 0, 0))
theorem pieceB_no0 {ps : List C} (h : ¬ (1 ≤ ps.length ∧ ps.length ≤ 5)) : pieceB ps = false := by simp [pieceB, h]
theorem pieceB_no {ps : List C} {i : Nat} (hi : i < ps.length) (h : pOk ps i = false) : pieceB ps = false := by
  have : (List.range ps.length).all (pOk ps) = false := by
    rw [List.all_eq_false]; exact ⟨i, by simpa using hi, by rw [h]; simp⟩
  simp [pieceB, this]
theorem pieceB_fin {ps : List C} (h : 1 ≤ ps.length ∧ ps.length ≤ 5) (hq : ∀ j, j < ps.length → pOk ps j = true) : pieceB ps = decide (lowN ps ps.length = (0, 0, 0)) := by
  have : (List.range ps.length).all (pOk ps) = true := by
    rw [List.all_eq_true]; intro j hj; exact hq j (by simpa using hj)
  simp [pieceB, this, h]
theorem in3_list (c : C) : ([c.1, c.2.1, c.2.2].all fun z => within z 0 3) = in3 c := by simp [in3, Bool.and_assoc]
theorem in3_bd {c : C} (h : in3 c = true) : (0 ≤ c.1 ∧ c.1 ≤ 3) ∧ (0 ≤ c.2.1 ∧ c.2.1 ≤ 3) ∧ (0 ≤ c.2.2 ∧ c.2.2 ≤ 3) := by
  simp [in3, within] at h; omega
theorem pOk_no1 {ps : List C} {i : Nat} (h : in3 (at3 ps i) = false) : pOk ps i = false := by simp only [pOk, h, Bool.false_and]
theorem pOk_no2 {ps : List C} {i : Nat} (hi : 0 < i) (h : 0 ≤ cmpC (at3 ps (i - 1)) (at3 ps i)) : pOk ps i = false := by
  have := cmpC_before (at3 ps (i - 1)) (at3 ps i)
  simp only [h, decide_true] at this
  have hb : before (at3 ps (i - 1)) (at3 ps i) = false := by simpa using this.symm
  simp only [pOk, hb, Bool.or_false, Bool.and_eq_false_iff, decide_eq_false_iff_not]
  exact .inr (by omega)
theorem pOk_no3 {ps : List C} {i : Nat} (hi : 0 < i) (h : before (at3 ps (i - 1)) (at3 ps i) = false) : pOk ps i = false := by
  simp only [pOk, h, Bool.or_false, Bool.and_eq_false_iff, decide_eq_false_iff_not]
  exact .inr (by omega)
theorem pOk_yes1 {ps : List C} {i : Nat} (h : in3 (at3 ps i) = true) (hi : i = 0) : pOk ps i = true := by
  subst hi; simp only [pOk, h, decide_true, Bool.true_or, Bool.and_true]
theorem pOk_yes2 {ps : List C} {i : Nat} (h : in3 (at3 ps i) = true) (hc : ¬ 0 ≤ cmpC (at3 ps (i - 1)) (at3 ps i)) : pOk ps i = true := by
  have := cmpC_before (at3 ps (i - 1)) (at3 ps i)
  simp only [hc, decide_false] at this
  have hb : before (at3 ps (i - 1)) (at3 ps i) = true := by simpa using this.symm
  simp only [pOk, h, hb, Bool.or_true, Bool.and_true]
theorem pOk_yes3 {ps : List C} {i : Nat} (h : in3 (at3 ps i) = true) (hc : before (at3 ps (i - 1)) (at3 ps i) = true) : pOk ps i = true := by
  simp only [pOk, h, hc, Bool.or_true, Bool.and_true]
theorem pOk_in {ps : List C} {j : Nat} (h : pOk ps j = true) : in3 (at3 ps j) = true := by simp only [pOk, Bool.and_eq_true] at h; exact h.1
/-- Least numbers, from 4 on. -/
def lstC (ps : List C) (i : Nat) : C := (ps.take i).foldl minC (4, 4, 4)
theorem lstC_zero (ps : List C) : lstC ps 0 = (4, 4, 4) := rfl
theorem lstC_succ {ps : List C} {i : Nat} (h : i < ps.length) : minC (lstC ps i) (at3 ps i) = lstC ps (i + 1) := by
  unfold lstC; rw [take_succ3 h, List.foldl_append]; rfl
theorem lst_low {ps : List C} (hq : ∀ j, j < ps.length → pOk ps j = true) : ∀ i, i + 1 ≤ ps.length → lstC ps (i + 1) = lowN ps (i + 1)
  | 0, h => by
    have := in3_bd (pOk_in (hq 0 (by omega)))
    rw [← lstC_succ (by omega), ← lowN_succ (by omega), lstC_zero, lowN_zero]
    simp only [minC, Prod.mk.injEq]
    omega
  | i + 1, h => by rw [← lstC_succ (by omega), ← lowN_succ (by omega), lst_low hq i (by omega)]
theorem ci3_bd {c : C} (h : in3 c = true) (k : Nat) : 0 ≤ ci c k ∧ ci c k ≤ 3 := by
  have := in3_bd h
  unfold ci; split
  · exact this.1
  · split
    · exact this.2.1
    · exact this.2.2
theorem in3_of {c : C} (h : ∀ k, k < 3 → within (ci c k) 0 3 = true) : in3 c = true := by
  have h0 := h 0 (by omega)
  have h1 := h 1 (by omega)
  have h2 := h 2 (by omega)
  simp [ci] at h0 h1 h2
  simp [in3, h0, h1, h2]
theorem in3_no {c : C} {k : Nat} (hk : k < 3) (h : within (ci c k) 0 3 = false) : in3 c = false := by
  obtain rfl | rfl | rfl : k = 0 ∨ k = 1 ∨ k = 2 := by omega
  all_goals
    simp [ci] at h
    simp [in3, h]

/-! ### Where a piece fits -/
def fitC (X Y Z : Int) (cs : List C) (a c : C) : Bool := inBox X Y Z (addC c a) && !decide (addC c a ∈ cs)
def fitAt (X Y Z : Int) (cs ps : List C) (a : C) : Bool := in3 a && ps.all fun c => fitC X Y Z cs a c
theorem all3_yes {ps : List C} {f : C → Bool} (h : ∀ j, j < ps.length → f (at3 ps j) = true) : ps.all f = true := by
  rw [List.all_eq_true]
  intro c hc
  obtain ⟨j, hj, rfl⟩ := mem_at3 hc
  exact h j hj
theorem all3_no {ps : List C} {f : C → Bool} {i : Nat} (hi : i < ps.length) (h : f (at3 ps i) = false) : ps.all f = false := by
  rw [List.all_eq_false]; exact ⟨_, at3_mem hi, by rw [h]; simp⟩
structure Piece (ps : List C) : Prop where
  len : 1 ≤ ps.length ∧ ps.length ≤ 5
  in3 : ∀ j, j < ps.length → in3 (at3 ps j) = true
theorem piece_of {ps : List C} (h : pieceB ps = true) : Piece ps := by
  simp only [pieceB, Bool.and_eq_true, decide_eq_true_eq, List.all_eq_true] at h
  exact ⟨h.1.1, fun j hj => pOk_in (h.1.2 j (by simpa using hj))⟩
/-- The program allows a place one further: nothing fits there. -/
theorem fit_04 {X Y Z : Int} {cs ps : List C} {a : C} (hX : Box X Y Z) (hp : Piece ps) (ha : (0 ≤ a.1 ∧ a.1 ≤ 4) ∧ (0 ≤ a.2.1 ∧ a.2.1 ≤ 4) ∧ (0 ≤ a.2.2 ∧ a.2.2 ≤ 4)) : (ps.all fun c => fitC X Y Z cs a c) = fitAt X Y Z cs ps a := by
  unfold fitAt
  cases h : in3 a with
  | true => rw [Bool.true_and]
  | false =>
    rw [Bool.false_and]
    refine all3_no (i := 0) (by have := hp.len; omega) ?_
    have h0 := in3_bd (hp.in3 0 (by have := hp.len; omega))
    cases g : inBox X Y Z (addC (at3 ps 0) a) with
    | false => simp only [fitC, g, Bool.false_and]
    | true =>
      have h1 := inBox_bd g
      simp only [addC, Box] at h1 hX
      exfalso
      have : in3 a = true := by simp only [in3, within, Bool.and_eq_true, decide_eq_true_eq]; omega
      rw [this] at h; simp at h
theorem fit_no {X Y Z : Int} {cs ps : List C} {a : C} (h : in3 a = false) : fitAt X Y Z cs ps a = false := by simp only [fitAt, h, Bool.false_and]
theorem fit_yes {X Y Z : Int} {cs ps : List C} {a : C} (h : in3 a = true) : fitAt X Y Z cs ps a = ps.all fun c => fitC X Y Z cs a c := by simp only [fitAt, h, Bool.true_and]
theorem w04_list (a : C) : ([a.1, a.2.1, a.2.2].all fun z => within z 0 4) = true ↔ (0 ≤ a.1 ∧ a.1 ≤ 4) ∧ (0 ≤ a.2.1 ∧ a.2.1 ≤ 4) ∧ (0 ≤ a.2.2 ∧ a.2.2 ≤ 4) := by
  simp [within, and_assoc]
theorem fit_04no {X Y Z : Int} {cs ps : List C} {a : C} (h : ([a.1, a.2.1, a.2.2].all fun z => within z 0 4) = false) : fitAt X Y Z cs ps a = false := by
  refine fit_no ?_
  cases g : in3 a with
  | false => rfl
  | true =>
    have := in3_bd g
    rw [(w04_list a).mpr (by omega)] at h; simp at h
end Go.Sep
/- Pieces: the forms that the walks need. -/
namespace Go.Sep
open Go
set_option linter.unusedVariables false
set_option linter.unusedSimpArgs false

theorem at3_map {f : C → C} {cs : List C} {i : Nat} (h : i < cs.length) : at3 (cs.map f) i = f (at3 cs i) := by
  simp [at3, List.getElem?_eq_getElem h]
theorem fitC_no1 {X Y Z : Int} {cs : List C} {a c : C} (h : inBox X Y Z (addC c a) = false) : fitC X Y Z cs a c = false := by simp only [fitC, h, Bool.false_and]
theorem fitC_no2 {X Y Z : Int} {cs : List C} {a c : C} (h : addC c a ∈ cs) : fitC X Y Z cs a c = false := by simp only [fitC, decide_eq_true h, Bool.not_true, Bool.and_false]
theorem fitC_yes {X Y Z : Int} {cs : List C} {a c : C} (h : inBox X Y Z (addC c a) = true) (h2 : ¬ addC c a ∈ cs) : fitC X Y Z cs a c = true := by simp only [fitC, h, decide_eq_false h2, Bool.not_false, Bool.and_self]
def placeS (X Y Z : Int) (cs ps : List C) (a : C) : BitVec 64 := if fitAt X Y Z cs ps a then maskN Y Z (ps.map fun c => addC c a) ps.length else 0#64
theorem place_no {X Y Z : Int} {cs ps : List C} {a : C} (h : fitAt X Y Z cs ps a = false) : Value.tuple #[U (placeS X Y Z cs ps a), .bool (fitAt X Y Z cs ps a)] = .tuple #[U 0#64, .bool false] := by
  rw [placeS, h]; rfl
theorem place_yes {X Y Z : Int} {cs ps : List C} {a : C} (h : fitAt X Y Z cs ps a = true) : Value.tuple #[U (placeS X Y Z cs ps a), .bool (fitAt X Y Z cs ps a)] = .tuple #[U (maskN Y Z (ps.map fun c => addC c a) ps.length), .bool true] := by
  rw [placeS, h]; rfl
theorem fit_04w {X Y Z : Int} {cs ps : List C} {a : C} (hX : Box X Y Z) (hp : Piece ps) (ha : (0 ≤ a.1 ∧ a.1 ≤ 4) ∧ (0 ≤ a.2.1 ∧ a.2.1 ≤ 4) ∧ (0 ≤ a.2.2 ∧ a.2.2 ≤ 4)) {b : Bool} (h : (ps.all fun c => fitC X Y Z cs a c) = b) : fitAt X Y Z cs ps a = b := (fit_04 hX hp ha).symm.trans h
theorem fit_3w {X Y Z : Int} {cs ps : List C} {a : C} (ha : in3 a = true) {b : Bool} (h : (ps.all fun c => fitC X Y Z cs a c) = b) : fitAt X Y Z cs ps a = b := (fit_yes ha).trans h
theorem within_15 {ps : List C} (h : within ((ps.length : Nat) : Int) 1 5 = true) : 1 ≤ ps.length ∧ ps.length ≤ 5 := by
  simp [within] at h; omega
theorem within_15n {ps : List C} (h : within ((ps.length : Nat) : Int) 1 5 = false) : pieceB ps = false := by
  refine pieceB_no0 fun g => ?_
  have : within ((ps.length : Nat) : Int) 1 5 = true := by simp [within]; omega
  rw [this] at h; simp at h
theorem mix_minL {a c : C} {k : Nat} (hk : k < 3) : (tri (mixC a (minC a c) k)).set (0 + k * 1) (.int .i64 (min (ci (mixC a (minC a c) k) k) (ci c k))) = tri (mixC a (minC a c) (k + 1)) := mix_min hk
theorem isPk_no {X Y Z : Int} {cs ps : List C} (h : isHeap X Y Z cs = true) (g : (isHeap X Y Z cs && pieceB ps) = false) : pieceB ps = false := by rw [h, Bool.true_and] at g; exact g
def fits (X Y Z : Int) (cs ps : List C) : List C := (allC X Y Z).filter (fitAt X Y Z cs ps)
end Go.Sep
/- Walks over columns. -/
namespace Go.Sep
open Go
set_option linter.unusedVariables false
set_option linter.unusedSimpArgs false

def stepD (T ws : List Int) (i : Nat) : Int := at1 T (at1 ws i).toNat - at1 T (at1 ws (i - 1)).toNat
def wMax (T ws : List Int) : Nat → Int
  | 0 => 0
  | i + 1 => if i = 0 then 0 else max (wMax T ws i) (max (stepD T ws i) (-(stepD T ws i)))
def wSum (T ws : List Int) : Nat → Int
  | 0 => 0
  | i + 1 => if i = 0 then 0 else wSum T ws i + max (stepD T ws i) 0
theorem wMax_one (T ws : List Int) : wMax T ws 1 = 0 := rfl
theorem wSum_one (T ws : List Int) : wSum T ws 1 = 0 := rfl
theorem wMax_i {T ws : List Int} {i : Nat} (h : 0 < i) : max (wMax T ws i) (max (at1 T (at1 ws (i - 1)).toNat - at1 T (at1 ws i).toNat) (at1 T (at1 ws i).toNat - at1 T (at1 ws (i - 1)).toNat)) = wMax T ws (i + 1) := by
  simp only [wMax, if_neg (show ¬ i = 0 by omega), stepD]; omega
theorem wSum_i {T ws : List Int} {i : Nat} (h : 0 < i) : wSum T ws i + max 0 (at1 T (at1 ws i).toNat - at1 T (at1 ws (i - 1)).toNat) = wSum T ws (i + 1) := by
  simp only [wSum, if_neg (show ¬ i = 0 by omega), stepD]; omega
theorem wMax_s {T ws : List Int} {i : Nat} (h : 0 < i) : max (wMax T ws i) (max (at1 T (at1 ws i).toNat - at1 T (at1 ws (i - 1)).toNat) (0 - (at1 T (at1 ws i).toNat - at1 T (at1 ws (i - 1)).toNat))) = wMax T ws (i + 1) := by
  simp only [wMax, if_neg (show ¬ i = 0 by omega), stepD]; omega
theorem wSum_s {T ws : List Int} {i : Nat} (h : 0 < i) : wSum T ws i + max (at1 T (at1 ws i).toNat - at1 T (at1 ws (i - 1)).toNat) 0 = wSum T ws (i + 1) := by
  simp only [wSum, if_neg (show ¬ i = 0 by omega), stepD]
theorem wMax_z {T ws : List Int} {i : Nat} (h : i = 0) : wMax T ws i = wMax T ws (i + 1) := by subst h; rfl
theorem wSum_z {T ws : List Int} {i : Nat} (h : i = 0) : wSum T ws i = wSum T ws (i + 1) := by subst h; rfl
theorem wk_bd {T ws : List Int} (hb : ∀ j, 0 ≤ at1 T j ∧ at1 T j ≤ 4) : ∀ i : Nat, (0 ≤ wSum T ws i ∧ wSum T ws i ≤ 4 * (i : Int)) ∧ (0 ≤ wMax T ws i ∧ wMax T ws i ≤ 4)
  | 0 => by simp [wSum, wMax]
  | i + 1 => by
    have h := wk_bd hb (ws := ws) i
    have h1 := hb (at1 ws i).toNat
    have h2 := hb (at1 ws (i - 1)).toNat
    simp only [wSum, wMax, stepD]
    split <;> omega
def wOk (X Y : Int) (ws : List Int) (i : Nat) : Bool := within (at1 ws i) 0 (X * Y - 1) && (decide (i = 0) || decide (at1 ws i ∈ nearL Y (X * Y).toNat (at1 ws (i - 1)).toNat))
def walkB (X Y Z : Int) (cs : List C) (ws : List Int) : Bool := isHeap X Y Z cs && decide (0 < ws.length) && (List.range ws.length).all (wOk X Y ws)
def wkA (X Y Z : Int) (cs : List C) (ws : List Int) : Int := if walkB X Y Z cs ws then wMax (topsN X Y cs cs.length) ws ws.length else 0
def wkS (X Y Z : Int) (cs : List C) (ws : List Int) : Int := if walkB X Y Z cs ws then wSum (topsN X Y cs cs.length) ws ws.length else 0
def topB (X Y Z : Int) (cs : List C) (p : Int) (ws : List Int) : Bool := isHeap X Y Z cs && (decide (0 ≤ p) && ws.all fun z => within z 0 (X * Y - 1))
theorem within_le {a m : Int} (h : within a 0 (m - 1) = true) : 0 ≤ a ∧ a < m := by simp [within] at h; omega
theorem topB_yes {X Y Z : Int} {cs : List C} {p : Int} {ws : List Int} (h : topB X Y Z cs p ws = true) : isHeap X Y Z cs = true ∧ 0 ≤ p ∧ ∀ j, j < ws.length → 0 ≤ at1 ws j ∧ at1 ws j < X * Y := by
  simp only [topB, Bool.and_eq_true, decide_eq_true_eq, List.all_eq_true] at h
  exact ⟨h.1, h.2.1, fun j hj => within_le (h.2.2 _ (at1_mem hj))⟩
theorem all_not {ws : List Int} {f : Int → Bool} (h : ∀ j, j < ws.length → f (at1 ws j) = true) : ws.all f = true := by
  rw [List.all_eq_true]; intro z hz; obtain ⟨j, hj, rfl⟩ := mem_at1 hz; exact h j hj
theorem walk_no1 {X Y Z : Int} {cs : List C} {ws : List Int} (h : topB X Y Z cs 0 ws = false) : walkB X Y Z cs ws = false := by
  cases g : walkB X Y Z cs ws with
  | false => rfl
  | true =>
    simp only [walkB, Bool.and_eq_true, decide_eq_true_eq, List.all_eq_true, List.mem_range] at g
    have : topB X Y Z cs 0 ws = true := by
      simp only [topB, g.1.1, Bool.true_and, Int.le_refl, decide_true]
      exact all_not fun j hj => by have := g.2 j hj; simp only [wOk, Bool.and_eq_true] at this; exact this.1
    rw [this] at h; simp at h
theorem walk_no0 {X Y Z : Int} {cs : List C} {ws : List Int} (h : isHeap X Y Z cs = false) : walkB X Y Z cs ws = false := by simp only [walkB, h, Bool.false_and]
theorem walk_no2 {X Y Z : Int} {cs : List C} {ws : List Int} (h : ¬ 0 < ws.length) : walkB X Y Z cs ws = false := by simp only [walkB, decide_eq_false h, Bool.and_false, Bool.false_and]
theorem walk_no3 {X Y Z : Int} {cs : List C} {ws : List Int} {i : Nat} (hi : i < ws.length) (h : wOk X Y ws i = false) : walkB X Y Z cs ws = false := by
  have : (List.range ws.length).all (wOk X Y ws) = false := by
    rw [List.all_eq_false]; exact ⟨i, by simpa using hi, by rw [h]; simp⟩
  simp only [walkB, this, Bool.and_false]
theorem walk_yes {X Y Z : Int} {cs : List C} {ws : List Int} (h : isHeap X Y Z cs = true) (h0 : 0 < ws.length) (hq : ∀ j, j < ws.length → wOk X Y ws j = true) : walkB X Y Z cs ws = true := by
  have : (List.range ws.length).all (wOk X Y ws) = true := by
    rw [List.all_eq_true]; intro j hj; exact hq j (by simpa using hj)
  simp only [walkB, h, this, decide_eq_true h0, Bool.and_self]
theorem wOk_no1 {X Y : Int} {ws : List Int} {i : Nat} (h : within (at1 ws i) 0 (X * Y - 1) = false) : wOk X Y ws i = false := by simp only [wOk, h, Bool.false_and]
theorem wOk_no2 {X Y : Int} {ws : List Int} {i : Nat} (h0 : 0 < i) (h : ¬ at1 ws i ∈ nearL Y (X * Y).toNat (at1 ws (i - 1)).toNat) : wOk X Y ws i = false := by
  simp only [wOk, decide_eq_false h, decide_eq_false (show ¬ i = 0 by omega), Bool.or_self, Bool.and_false]
theorem within_of {a m : Int} (h : 0 ≤ a ∧ a < m) : within a 0 (m - 1) = true := by simp [within]; omega
theorem wOk_yes0 {X Y : Int} {ws : List Int} {i : Nat} (h : 0 ≤ at1 ws i ∧ at1 ws i < X * Y) (h0 : i = 0) : wOk X Y ws i = true := by
  simp only [wOk, within_of h, decide_eq_true h0, Bool.true_or, Bool.and_self]
theorem wOk_yes {X Y : Int} {ws : List Int} {i : Nat} (h : 0 ≤ at1 ws i ∧ at1 ws i < X * Y) (h0 : at1 ws i ∈ nearL Y (X * Y).toNat (at1 ws (i - 1)).toNat) : wOk X Y ws i = true := by
  simp only [wOk, within_of h, decide_eq_true h0, Bool.or_true, Bool.and_self]
theorem wOk_bd {X Y : Int} {ws : List Int} {i : Nat} (h : wOk X Y ws i = true) : 0 ≤ at1 ws i ∧ at1 ws i < X * Y := by
  simp only [wOk, Bool.and_eq_true] at h; exact within_le h.1
theorem wk_no {X Y Z : Int} {cs : List C} {ws : List Int} (h : walkB X Y Z cs ws = false) : Value.tuple #[.int .i64 0, .int .i64 0, .bool false] = .tuple #[.int .i64 (wkA X Y Z cs ws), .int .i64 (wkS X Y Z cs ws), .bool (walkB X Y Z cs ws)] := by
  unfold wkA wkS; rw [h]; rfl
theorem wk_yes {X Y Z : Int} {cs : List C} {ws : List Int} (h : walkB X Y Z cs ws = true) : Value.tuple #[.int .i64 (wMax (topsN X Y cs cs.length) ws ws.length), .int .i64 (wSum (topsN X Y cs cs.length) ws ws.length), .bool true] = .tuple #[.int .i64 (wkA X Y Z cs ws), .int .i64 (wkS X Y Z cs ws), .bool (walkB X Y Z cs ws)] := by
  unfold wkA wkS; rw [h]; rfl
theorem any_mem {zs : List Int} {x : Int} : (zs.any fun z => decide (x = z)) = decide (x ∈ zs) := by
  rw [Bool.eq_iff_iff, List.any_eq_true, decide_eq_true_eq]
  constructor
  · rintro ⟨z, hz, e⟩; rw [of_decide_eq_true e]; exact hz
  · exact fun h => ⟨x, h, decide_eq_true rfl⟩
theorem mem_yes1 {zs : List Int} {x : Int} {i : Nat} (hi : i < zs.length) (h : at1 zs i = x) : decide (x ∈ zs) = true := decide_eq_true (h ▸ at1_mem hi)
theorem mem_no1 {zs : List Int} {x : Int} (hq : ∀ j, j < zs.length → ¬ at1 zs j = x) : decide (x ∈ zs) = false := decide_eq_false fun h => by
  obtain ⟨j, hj, e⟩ := mem_at1 h; exact hq j hj e
end Go.Sep
/- The six orders of the directions. -/
namespace Go.Sep
open Go
set_option linter.unusedVariables false
set_option linter.unusedSimpArgs false

def ORD : List C := [(0, 1, 2), (0, 2, 1), (1, 0, 2), (1, 2, 0), (2, 0, 1), (2, 1, 0)]
def sameP (X Y Z : Int) (cs : List C) (p q r : Nat) : Bool := decide (X = (prm p q r (X, Y, Z)).1 ∧ Y = (prm p q r (X, Y, Z)).2.1 ∧ Z = (prm p q r (X, Y, Z)).2.2 ∧ cs = cellsOf (prm p q r (X, Y, Z)).1 (prm p q r (X, Y, Z)).2.1 (prm p q r (X, Y, Z)).2.2 (mask (prm p q r (X, Y, Z)).2.1 (prm p q r (X, Y, Z)).2.2 (cs.map (prm p q r))))
def ordF (X Y Z : Int) (cs : List C) (i : Nat) : Bool := sameP X Y Z cs (at3 ORD i).1.toNat (at3 ORD i).2.1.toNat (at3 ORD i).2.2.toNat
theorem ord_at {i : Nat} (h : i < 6) : ∃ p q r : Nat, p < 3 ∧ q < 3 ∧ r < 3 ∧ at3 ORD i = ((p : Int), (q : Int), (r : Int)) ∧ ∀ X Y Z cs, ordF X Y Z cs i = sameP X Y Z cs p q r := by
  obtain rfl | rfl | rfl | rfl | rfl | rfl : i = 0 ∨ i = 1 ∨ i = 2 ∨ i = 3 ∨ i = 4 ∨ i = 5 := by omega
  · exact ⟨0, 1, 2, by decide, by decide, by decide, rfl, fun _ _ _ _ => rfl⟩
  · exact ⟨0, 2, 1, by decide, by decide, by decide, rfl, fun _ _ _ _ => rfl⟩
  · exact ⟨1, 0, 2, by decide, by decide, by decide, rfl, fun _ _ _ _ => rfl⟩
  · exact ⟨1, 2, 0, by decide, by decide, by decide, rfl, fun _ _ _ _ => rfl⟩
  · exact ⟨2, 0, 1, by decide, by decide, by decide, rfl, fun _ _ _ _ => rfl⟩
  · exact ⟨2, 1, 0, by decide, by decide, by decide, rfl, fun _ _ _ _ => rfl⟩
/-- How many of the first numbers are so. -/
def cntF (f : Nat → Bool) : Nat → Int
  | 0 => 0
  | i + 1 => if f i then cntF f i + 1 else cntF f i
theorem cnt_T {f : Nat → Bool} {i : Nat} (h : f i = true) : cntF f i + 1 = cntF f (i + 1) := by simp [cntF, h]
theorem cnt_F {f : Nat → Bool} {i : Nat} (h : f i = false) : cntF f i = cntF f (i + 1) := by simp [cntF, h]
theorem cnt_bd (f : Nat → Bool) : ∀ i : Nat, 0 ≤ cntF f i ∧ cntF f i ≤ (i : Int)
  | 0 => by simp [cntF]
  | i + 1 => by have := cnt_bd f i; simp only [cntF]; split <;> omega
theorem same_flip {X Y Z A B D : Int} {cs ds : List C} : decide (A = X ∧ B = Y ∧ D = Z ∧ ds = cs) = decide (X = A ∧ Y = B ∧ Z = D ∧ cs = ds) := by
  rw [decide_eq_decide]; constructor <;> (rintro ⟨h1, h2, h3, h4⟩; exact ⟨h1.symm, h2.symm, h3.symm, h4.symm⟩)
end Go.Sep
/- clear; what is left when some numbers are deleted in place; slices shorter than their block. -/
namespace Go.Sep
open Go
set_option linter.unusedVariables false
set_option linter.unusedSimpArgs false

variable {P : Program} {ts : Temps} {H : Heap} {n : Nat}
theorem e_clear {t e : TypeId} {x : Operand} {b l h : Nat} {cs : List Value} {z : Value} {sz by' by'' : Nat} {zz : List Value} {g g' : Bool} {d' : TD}
    (ht : ti P t = some ⟨.slice e, sz, by', zz, g⟩) (hE : ti P e = some ⟨d', 1, by'', [z], g'⟩) (hz : konst0 z = true) (hx : ev ts x = some (subV b 1 l h)) (hH : H b = some (.cells false cs)) (hlh : l ≤ h) (hl : h ≤ cs.length) :
    E P (.call { callee := .builtin .clear, args := #[x], argTypes := #[t] }) ts H n (.tuple #[]) (H.set b (.cells false (cs.take l ++ List.replicate (h - l) z ++ cs.drop h))) n := by
  refine ⟨?_, rfl⟩
  simp only [cop, cBuiltin, hx]
  by_cases h0 : h = l
  · subst h0
    have e1 : subV b 1 h h = .slice none 0 2 := by simp [subV]
    rw [e1]
    have e2 : cClear P #[t] H (.slice none 0 2) = some H := by simp [cClear, ht]
    rw [e2]
    have e3 : H.set b (.cells false (cs.take h ++ List.replicate (h - h) z ++ cs.drop h)) = H := by
      funext y
      unfold Heap.set
      split
      · rename_i e; subst e; rw [hH]; simp
      · rfl
    rw [e3]
  · have e1 : subV b 1 l h = .slice (some ⟨b, l, none⟩) (h - l) 1 := by simp [subV, h0]
    rw [e1]
    have e2 : cClear P #[t] H (.slice (some ⟨b, l, none⟩) (h - l) 1) = some (H.set b (.cells false (cs.take l ++ List.replicate (h - l) z ++ cs.drop h))) := by
      simp only [cClear, ht, hE, hH, List.getElem?_toArray, List.getElem?_cons_zero]
      rw [if_pos ⟨trivial, hz, by omega, trivial⟩, putC_eq (by simp; omega)]
      simp only [List.length_replicate]
      rw [show l + (h - l) = h by omega]
    rw [e2]

/-- What stays of the first numbers, when some are deleted. -/
def keptN (f : Int → Bool) (zs : List Int) (i : Nat) : List Int := (zs.take i).filter fun z => !f z
def kept (f : Int → Bool) (zs : List Int) : List Int := zs.filter fun z => !f z
theorem kept_T {f : Int → Bool} {zs : List Int} {i : Nat} (hi : i < zs.length) (h : f (at1 zs i) = true) : keptN f zs (i + 1) = keptN f zs i := by
  unfold keptN; rw [take_succ1 hi, List.filter_append]; simp only [List.filter, h, Bool.not_true, List.append_nil]
theorem kept_F {f : Int → Bool} {zs : List Int} {i : Nat} (hi : i < zs.length) (h : f (at1 zs i) = false) : keptN f zs (i + 1) = keptN f zs i ++ [at1 zs i] := by
  unfold keptN; rw [take_succ1 hi, List.filter_append]; simp only [List.filter, h, Bool.not_false]
theorem kept_len (f : Int → Bool) (zs : List Int) (i : Nat) : (keptN f zs i).length ≤ i := by
  unfold keptN; exact Nat.le_trans (List.length_filter_le _ _) (by simp; omega)
theorem kept_end (f : Int → Bool) {zs : List Int} {i : Nat} (h : i = zs.length) : keptN f zs i = kept f zs := by subst h; simp [keptN, kept]
/-- The row while numbers are deleted. -/
def delR (f : Int → Bool) (zs : List Int) (i : Nat) : List Int := keptN f zs i ++ zs.drop (keptN f zs i).length
theorem delR_len (f : Int → Bool) (zs : List Int) {i : Nat} (h : i ≤ zs.length) : (delR f zs i).length = zs.length := by
  have := kept_len f zs i
  simp [delR]; omega
theorem delR_zero {f : Int → Bool} {zs : List Int} {i : Nat} (hi : i ≤ zs.length) (hq : ∀ j, j < i → f (at1 zs j) = false) : keptN f zs i = zs.take i := by
  induction i with
  | zero => simp [keptN]
  | succ i ih => rw [kept_F (by omega) (hq i (by omega)), ih (by omega) (fun j hj => hq j (by omega)), take_succ1 (by omega)]
theorem delR_at {f : Int → Bool} {zs : List Int} {i j : Nat} (hi : i ≤ j) (hj : j < zs.length) : at1 (delR f zs i) j = at1 zs j := by
  have := kept_len f zs i
  simp only [at1, delR, List.getD_eq_getElem?_getD]
  rw [List.getElem?_append_right (by omega), List.getElem?_drop, show (keptN f zs i).length + (j - (keptN f zs i).length) = j by omega]
theorem delR_T {f : Int → Bool} {zs : List Int} {i : Nat} (hi : i < zs.length) (h : f (at1 zs i) = true) : delR f zs (i + 1) = delR f zs i := by unfold delR; rw [kept_T hi h]
theorem delR_F {f : Int → Bool} {zs : List Int} {i : Nat} (hi : i < zs.length) (h : f (at1 zs i) = false) : (delR f zs i).set (keptN f zs i).length (at1 zs i) = delR f zs (i + 1) := by
  have := kept_len f zs i
  unfold delR
  rw [kept_F hi h, List.set_append_right _ _ (Nat.le_refl _), Nat.sub_self, List.length_append, List.append_assoc, List.drop_eq_getElem_cons (show (keptN f zs i).length < zs.length by omega)]
  rfl
theorem ints_set1 {zs : List Int} {k : Nat} {z : Int} : (ints zs).set (0 + k * 1) (.int .i64 z) = ints (zs.set k z) := by
  rw [Nat.zero_add, Nat.mul_one]; simp [ints, List.map_set]
def padI (f : Int → Bool) (zs : List Int) : List Int := List.replicate (zs.length - (kept f zs).length) 0
theorem delR_fin {f : Int → Bool} {zs : List Int} {i : Nat} (h : i = zs.length) : (ints (delR f zs i)).take (kept f zs).length ++ List.replicate (zs.length - (kept f zs).length) (.int .i64 0) ++ (ints (delR f zs i)).drop zs.length = ints (kept f zs ++ padI f zs) := by
  have h1 := delR_len f zs (i := i) (by omega)
  rw [List.drop_of_length_le (by rw [ints_length]; omega), List.append_nil]
  unfold delR padI
  rw [kept_end f h]
  simp [ints, List.map_append]
theorem kept_all {f : Int → Bool} {zs : List Int} (hq : ∀ j, j < zs.length → f (at1 zs j) = false) : kept f zs = zs := by
  unfold kept
  rw [List.filter_eq_self]
  intro z hz
  obtain ⟨j, hj, rfl⟩ := mem_at1 hz
  rw [hq j hj]; rfl
theorem kept_le (f : Int → Bool) (zs : List Int) : (kept f zs).length ≤ zs.length := List.length_filter_le _ _
/-- A slice over the first cells of a block; it may be the empty one. -/
def SV (b m : Nat) (v : Value) : Prop := v = .slice (some ⟨b, 0, none⟩) m 1 ∨ (m = 0 ∧ v = .slice none 0 2)
/-- The slice that is left when numbers are deleted. -/
def delE (f : Int → Bool) (zs : List Int) : Prop := (kept f zs).length = 0 ∧ ¬ (kept f zs).length = zs.length
instance (f : Int → Bool) (zs : List Int) : Decidable (delE f zs) := by unfold delE; infer_instance
def delV (b : Nat) (f : Int → Bool) (zs : List Int) : Value := .slice (if delE f zs then none else some ⟨b, 0, none⟩) (kept f zs).length (if delE f zs then 2 else 1)
theorem delV_e {b : Nat} {f : Int → Bool} {zs : List Int} (h : delE f zs) : delV b f zs = .slice none 0 2 := by unfold delV; rw [if_pos h, if_pos h, h.1]
theorem delV_n {b : Nat} {f : Int → Bool} {zs : List Int} (h : ¬ delE f zs) : delV b f zs = .slice (some ⟨b, 0, none⟩) (kept f zs).length 1 := by unfold delV; rw [if_neg h, if_neg h]
theorem delV_sv (b : Nat) (f : Int → Bool) (zs : List Int) : SV b (kept f zs).length (delV b f zs) := by
  by_cases h : delE f zs
  · exact .inr ⟨h.1, delV_e h⟩
  · exact .inl (delV_n h)
theorem delV_all {b : Nat} {f : Int → Bool} {zs : List Int} (h : kept f zs = zs) : delV b f zs = .slice (some ⟨b, 0, none⟩) zs.length 1 := by
  rw [delV_n (fun e => e.2 (by rw [h])), h]
theorem kept_lt {f : Int → Bool} {zs : List Int} {i : Nat} (hi : i < zs.length) (h : f (at1 zs i) = true) : (kept f zs).length < zs.length := by
  unfold kept
  exact List.length_filter_lt_length_iff_exists.mpr ⟨_, at1_mem hi, by rw [h]; simp⟩
theorem delV_some {b : Nat} {f : Int → Bool} {zs : List Int} {i : Nat} (hi : i < zs.length) (h : f (at1 zs i) = true) : delV b f zs = subV b 1 0 (kept f zs).length := by
  have := kept_lt hi h
  by_cases e : (kept f zs).length = 0
  · rw [delV_e ⟨e, by omega⟩, e]; rfl
  · rw [delV_n (fun g => e g.1)]; simp [subV, e]
theorem delV_ren (b : Nat) (f : Int → Bool) (zs : List Int) (ρ : Nat → Nat) : renT ρ (delV b f zs) = delV (ρ b) f zs := by
  by_cases h : delE f zs
  · rw [delV_e h, delV_e h]; rfl
  · rw [delV_n h, delV_n h]; rfl
theorem delV_renV (b : Nat) (f : Int → Bool) (zs : List Int) (ρ : Nat → Nat) : renV ρ (delV b f zs) = delV (ρ b) f zs := delV_ren b f zs ρ
theorem subV_tup (b es l h : Nat) : isTuple (subV b es l h) = false := by unfold subV; split <;> rfl
theorem delV_tup (b : Nat) (f : Int → Bool) (zs : List Int) : isTuple (delV b f zs) = false := rfl
theorem delV_lt {b n : Nat} (h : b < n) (f : Int → Bool) (zs : List Int) : ltT n (delV b f zs) = true := by
  by_cases g : delE f zs
  · rw [delV_e g]; rfl
  · rw [delV_n g]; exact decide_eq_true h
theorem delV_ltV {b n : Nat} (h : b < n) (f : Int → Bool) (zs : List Int) : ltV n (delV b f zs) = true := delV_lt h f zs
theorem at1_app {xs pad : List Int} {i : Nat} (h : i < xs.length) : at1 (xs ++ pad) i = at1 xs i := by
  simp only [at1, List.getD_eq_getElem?_getD, List.getElem?_append_left h]
theorem idxI_none {f : Int → Bool} {zs : List Int} (h : idxI f zs = -1) : ∀ j, j < zs.length → f (at1 zs j) = false := fun j hj => by
  cases g : f (at1 zs j) with
  | false => rfl
  | true =>
    unfold idxI at h
    rw [if_pos (List.any_eq_true.mpr ⟨_, at1_mem hj, g⟩)] at h
    omega
theorem idxI_some {f : Int → Bool} {zs : List Int} (h : ¬ idxI f zs = -1) : ∃ i : Nat, i < zs.length ∧ f (at1 zs i) = true ∧ (∀ j, j < i → f (at1 zs j) = false) ∧ idxI f zs = (i : Int) := by
  unfold idxI at h ⊢
  by_cases g : zs.any f = true
  · rw [if_pos g]
    have hlt : zs.findIdx f < zs.length := List.findIdx_lt_length.mpr (List.any_eq_true.mp g)
    refine ⟨zs.findIdx f, hlt, ?_, fun j hj => ?_, rfl⟩
    · have := List.findIdx_getElem (w := hlt)
      simpa only [at1, List.getD_eq_getElem?_getD, List.getElem?_eq_getElem hlt, Option.getD_some] using this
    · have := List.not_of_lt_findIdx hj
      have hj2 : j < zs.length := by omega
      simpa only [at1, List.getD_eq_getElem?_getD, List.getElem?_eq_getElem hj2, Option.getD_some] using this
  · rw [if_neg g] at h; exact absurd rfl h
theorem delR_init {f : Int → Bool} {zs : List Int} {i : Nat} (hi : i < zs.length) (h : f (at1 zs i) = true) (hq : ∀ j, j < i → f (at1 zs j) = false) : (keptN f zs (i + 1)).length = i ∧ delR f zs (i + 1) = zs := by
  have e : keptN f zs (i + 1) = zs.take i := (kept_T hi h).trans (delR_zero (by omega) hq)
  have e2 : (zs.take i).length = i := by simp; omega
  unfold delR
  rw [e, e2]
  exact ⟨rfl, List.take_append_drop i zs⟩
theorem padI_all {f : Int → Bool} {zs : List Int} (h : kept f zs = zs) : kept f zs ++ padI f zs = zs := by
  unfold padI; rw [h]; simp
theorem markV_pad (k : Int) (xs pad : List Int) : markV k xs.length (ints (xs ++ pad)) = ints (upto k xs.length ++ pad) := by
  simp [markV, upto, ints, List.map_append]
theorem topB_one {X Y Z : Int} {cs : List C} {p s : Int} (h : isHeap X Y Z cs = true) (hp : 0 ≤ p ∧ p < X * Y) (hs : 0 ≤ s) : topB X Y Z cs s [p] = true := by
  simp [topB, h, hs, within]; omega
theorem topB_one_no {X Y Z : Int} {cs : List C} {p s : Int} (h : (isHeap X Y Z cs && within p 0 (X * Y - 1) && decide (0 ≤ s)) = false) : topB X Y Z cs s [p] = false := by
  cases h1 : isHeap X Y Z cs <;> cases h2 : within p 0 (X * Y - 1) <;> simp_all [topB]
def stF (hs : List Int) (p s q : Int) : Bool := decide (s < max (at1 hs p.toNat - at1 hs q.toNat) (at1 hs q.toNat - at1 hs p.toNat))
theorem stF_F {hs : List Int} {p s q : Int} (h : max (at1 hs q.toNat - at1 hs p.toNat) (at1 hs p.toNat - at1 hs q.toNat) ≤ s) : stF hs p s q = false := by unfold stF; exact decide_eq_false (by omega)
theorem stF_T {hs : List Int} {p s q : Int} (h : ¬ max (at1 hs q.toNat - at1 hs p.toNat) (at1 hs p.toNat - at1 hs q.toNat) ≤ s) : stF hs p s q = true := by unfold stF; exact decide_eq_true (by omega)
end Go.Sep
/- Two heaps that look alike from two directions. -/
namespace Go.Sep
open Go
set_option linter.unusedVariables false
set_option linter.unusedSimpArgs false

def dirs2 (a b : Int) : Bool := within a 0 2 && within b 0 2 && !decide (a = b)
def boxes (X Y Z : Int) (cs : List C) (X2 Y2 Z2 : Int) (ds : List C) : Bool := isHeap X Y Z cs && isHeap X2 Y2 Z2 ds && decide (X = X2 ∧ Y = Y2 ∧ Z = Z2)
theorem boxes_yes {X Y Z : Int} {cs ds : List C} (h : isHeap X Y Z cs = true) (h2 : isHeap X Y Z ds = true) : boxes X Y Z cs X Y Z ds = true := by simp [boxes, h, h2]
theorem dirs_yes {p q : Nat} (hp : p < 3) (hq : q < 3) (h : p ≠ q) : dirs2 (p : Int) (q : Int) = true := by
  simp [dirs2, within_dir hp, within_dir hq]; omega
theorem dirs_of {a b : Int} (h : dirs2 a b = true) : ∃ p q : Nat, a = p ∧ b = q ∧ p < 3 ∧ q < 3 ∧ p ≠ q := by
  simp [dirs2, within] at h
  exact ⟨a.toNat, b.toNat, by omega, by omega, by omega, by omega, by omega⟩
def alikeB (X Y Z : Int) (cs ds : List C) (p q : Nat) : Bool := decide (viewL X Y Z p cs = viewL X Y Z p ds) && decide (viewL X Y Z q cs = viewL X Y Z q ds)
end Go.Sep
/- Tables: their rows written, one after the other. -/
namespace Go.Sep
open Go
set_option linter.unusedVariables false
set_option linter.unusedSimpArgs false

variable {P : Program} {s : St}
theorem ext_skip {H : Heap} {n k y : Nat} {g : Nat → List Value} {c : Blk} (h : y < n ∨ n + k ≤ y) (hy : H y = some c) : ext H n k g y = some c := by
  unfold ext; rw [if_neg (by omega)]; exact hy
/-- The blocks of a table's rows. -/
def rowsL (b k : Nat) : List Nat := (List.range k).map fun i => b + 1 + i
@[simp] theorem mem_rowsL {b k x : Nat} : x ∈ rowsL b k ↔ b + 1 ≤ x ∧ x < b + 1 + k := by
  simp only [rowsL, List.mem_map, List.mem_range]
  constructor
  · rintro ⟨i, hi, rfl⟩; omega
  · exact fun h => ⟨x - (b + 1), by omega, by omega⟩
theorem Ends.vE {fn : Func} {H : Heap} {n m k : Nat} {g : Nat → List Value} {v v' : Value} (hmk : m + k ≤ n) (hle : ∀ x c, x < n → ¬ (m ≤ x ∧ x < m + k) → H x = some c → s.H x = some c) (hH : ∀ x, n ≤ x → H x = none)
    (hb : ∀ i, i < k → s.H (m + i) = some (.cells false (g i))) (hp : ∀ i, i < k → (g i).all plainA = true)
    (hv : ltT n v = true) (hres : resOf P s fn.results.toList = some v') (he : v' = v) : Ends P fn H n s v (ext H m k g) n := by
  subst he
  refine ⟨id, fun _ _ => rfl, by rw [hres]; congr 1; exact (renT_id _).symm, hv, fun x c hx => ?_, fun x y _ _ h => h⟩
  by_cases e : m ≤ x ∧ x < m + k
  · have h1 : ext H m k g x = some (.cells false (g (x - m))) := by unfold ext; rw [if_pos e]
    rw [h1] at hx
    obtain rfl := Option.some.inj hx
    refine .inr ⟨by omega, ?_⟩
    have h2 := hb (x - m) (by omega)
    rw [show m + (x - m) = x by omega] at h2
    simp only [id, h2]
    exact ⟨rfl, plain_ren (hp (x - m) (by omega)) _⟩
  · have h1 : ext H m k g x = H x := by unfold ext; rw [if_neg e]
    rw [h1] at hx
    have hlt : x < n := by
      rcases Nat.lt_or_ge x n with q | q
      · exact q
      · rw [hH x q] at hx; simp at hx
    exact .inl ⟨hlt, hx, hle x c hlt e hx⟩
/-- How many cells the first rows have. -/
def preN (row : Nat → List C) : Nat → Nat
  | 0 => 0
  | i + 1 => preN row i + (row i).length
theorem preN_le {row : Nat → List C} {k : Nat} : ∀ i, i ≤ k → preN row i ≤ preN row k := by
  induction k with
  | zero =>
    intro i hi
    obtain rfl : i = 0 := by omega
    exact Nat.le_refl _
  | succ k ih =>
    intro i hi
    rcases Nat.lt_or_ge k i with h | h
    · obtain rfl : i = k + 1 := by omega
      exact Nat.le_refl _
    · exact Nat.le_trans (ih i h) (Nat.le_add_right _ _)
theorem preN_row {row : Nat → List C} {k i : Nat} (h : i < k) : (row i).length ≤ preN row k := Nat.le_trans (Nat.le_add_left _ _) (preN_le (row := row) (i + 1) h)
/-- A row's mark. -/
def mrkR (z : Int) (row : Nat → List C) (i : Nat) : List C := markC (z + 3 * ((preN row i : Nat) : Int)) (row i).length
theorem preN_bd {row : Nat → List C} {M : Nat} : ∀ k, (∀ i, i < k → (row i).length ≤ M) → preN row k ≤ k * M
  | 0, _ => by simp [preN]
  | k + 1, h => by
    have h1 := preN_bd k (fun i hi => h i (by omega))
    have h2 := h k (by omega)
    simp only [preN, Nat.succ_mul]
    omega
/-- Some sets, in a block. -/
def usV (f : Nat → BitVec 64) (k : Nat) : List Value := (List.range k).map fun i => U (f i)
theorem usV_length (f : Nat → BitVec 64) (k : Nat) : (usV f k).length = k := by simp [usV]
theorem usV_snoc (f : Nat → BitVec 64) (k : Nat) : usV f k ++ [U (f k)] = usV f (k + 1) := by simp [usV, List.range_succ]
theorem usV_at {f : Nat → BitVec 64} {k i : Nat} (h : i < k) : (usV f k)[0 + i * 1]? = some (U (f i)) := by simp [usV, h]
theorem usV_plain (f : Nat → BitVec 64) (k : Nat) : (usV f k).all plainA = true := by simp [usV, plainA, U]
theorem mask_nil {X Y Z : Int} {L : List C} (hv : Valid X Y Z L) (h : mask Y Z L = 0#64) : L.length = 0 := by
  cases L with
  | nil => rfl
  | cons c L =>
    have h1 := (rep_mask hv).has (hv.inn c (by simp))
    rw [h] at h1
    simp at h1
theorem mask_some {X Y Z : Int} {L : List C} (hv : Valid X Y Z L) (h : ¬ mask Y Z L = 0#64) : 0 < L.length := by
  cases L with
  | nil => exact absurd rfl h
  | cons c L => simp
theorem left_mask {X Y Z : Int} {L : List C} (hv : Valid X Y Z L) (k : Nat) : mask Y Z (leftN L k) &&& ~~~ mask Y Z (partN L k) = mask Y Z (leftN L (k + 1)) := by
  have h := (rep_mask (leftN_valid hv k)).diff (rep_mask (partN_valid hv k))
  exact h.toMask
theorem rep_one {X Y Z : Int} (hX : Box X Y Z) {c : C} (hc : In X Y Z c) : Rep X Y Z (1#64 <<< cellIx Y Z c) [c] := by
  have hv : Valid X Y Z [c] := ⟨hX, fun d hd => by rw [List.mem_singleton.mp hd]; exact hc, List.pairwise_singleton _ _⟩
  have h := rep_mask hv
  have e : mask Y Z [c] = 1#64 <<< cellIx Y Z c := by
    show 0#64 ||| 1#64 <<< cellIx Y Z c = _
    simp
  rw [e] at h; exact h
theorem rep_first {X Y Z : Int} {s : BitVec 64} {L : List C} (h : Rep X Y Z s L) (hne : 0 < L.length) : Rep X Y Z (s &&& -s) [at3 L 0] := by
  rw [rep_low h hne]; exact rep_one h.valid.box (h.valid.inn _ (at3_mem hne))
end Go.Sep
