/- More plain laws: all cells, sets and rows of cells, staircases, views, stacks. -/
import Derived.Test.YtkfhblkjllbejaaSets
import Derived.Test.YtkfhblkjllbejaaRules
namespace Go.Sep
open Go
set_option linter.unusedVariables false
set_option linter.unusedSimpArgs false

/-! ### All cells of a box -/
def allC (X Y Z : Int) : List C := (List.range (vol X Y Z)).map (cellAt Y Z)
theorem allC_mem {X Y Z : Int} {c : C} (hX : Box X Y Z) : c ∈ allC X Y Z ↔ In X Y Z c := by
  unfold allC
  rw [List.mem_map]
  constructor
  · rintro ⟨i, hi, rfl⟩; exact cellAt_in hX (by simpa using hi)
  · intro h; exact ⟨cellIx Y Z c, by simpa using cellIx_lt hX h, cellAt_ix hX h⟩
theorem allC_valid {X Y Z : Int} (hX : Box X Y Z) : Valid X Y Z (allC X Y Z) := by
  refine ⟨hX, fun c hc => (allC_mem hX).mp hc, ?_⟩
  have : (allC X Y Z).map (cellIx Y Z) = List.range (vol X Y Z) := by
    unfold allC
    rw [List.map_map]
    conv => rhs; rw [← List.map_id (List.range (vol X Y Z))]
    exact List.map_congr_left fun i hi => ix_cellAt hX (by simpa using hi)
  rw [this]; exact rise_range _
theorem allC_length (X Y Z : Int) : (allC X Y Z).length = vol X Y Z := by simp [allC]
theorem allC_at {X Y Z : Int} {i : Nat} (h : i < vol X Y Z) : at3 (allC X Y Z) i = cellAt Y Z i := by simp [at3, allC, List.getD, h]
theorem Valid.filter {X Y Z : Int} {cs : List C} (h : Valid X Y Z cs) (p : C → Bool) : Valid X Y Z (cs.filter p) :=
  ⟨h.box, fun c hc => h.inn c ((List.mem_filter.mp hc).1), List.Pairwise.sublist (List.Sublist.map _ List.filter_sublist) h.rise⟩
theorem cells_those {X Y Z : Int} (hX : Box X Y Z) (f : C → Bool) : cellsOf X Y Z (thoseTo Y Z f (vol X Y Z)) = (allC X Y Z).filter f := by
  have hv := vol_le hX
  unfold cellsOf idsOf allC
  rw [List.filter_map]
  congr 1
  refine List.filter_congr fun i hi => ?_
  have hi' : i < vol X Y Z := by simpa using hi
  rw [those_get (by omega)]
  simp [hi']
/-- The cells one after the other, as three loops list them. -/
def allN (Y Z : Int) (x y z : Nat) : List C := (List.range ((x * Y.toNat + y) * Z.toNat + z)).map (cellAt Y Z)
theorem cellAt_xyz {Y Z : Int} {x y z : Nat} (hY : 1 ≤ Y ∧ Y ≤ 4) (hZ : 1 ≤ Z ∧ Z ≤ 4) (hy : y < Y.toNat) (hz : z < Z.toNat) : cellAt Y Z ((x * Y.toNat + y) * Z.toNat + z) = ((x : Int), (y : Int), (z : Int)) := by
  unfold cellAt
  obtain rfl | rfl | rfl | rfl : Y = 1 ∨ Y = 2 ∨ Y = 3 ∨ Y = 4 := by omega
  all_goals
    obtain rfl | rfl | rfl | rfl : Z = 1 ∨ Z = 2 ∨ Z = 3 ∨ Z = 4 := by omega
    all_goals
      simp at hy hz ⊢
      omega
theorem allN_zero (Y Z : Int) : allN Y Z 0 0 0 = [] := by simp [allN]
theorem allN_succ {Y Z : Int} {x y z : Nat} (hY : 1 ≤ Y ∧ Y ≤ 4) (hZ : 1 ≤ Z ∧ Z ≤ 4) (hy : y < Y.toNat) (hz : z < Z.toNat) : allN Y Z x y (z + 1) = allN Y Z x y z ++ [((x : Int), (y : Int), (z : Int))] := by
  unfold allN
  rw [← Nat.add_assoc, List.range_succ, List.map_append]
  simp [cellAt_xyz hY hZ hy hz]
theorem allN_y {Y Z : Int} {x y z : Nat} (hz : z = Z.toNat) : allN Y Z x y z = allN Y Z x (y + 1) 0 := by
  subst hz; unfold allN; congr 2; rw [← Nat.add_assoc, Nat.add_mul _ 1]; omega
theorem allN_x {Y Z : Int} {x y : Nat} (hy : y = Y.toNat) : allN Y Z x y 0 = allN Y Z (x + 1) 0 0 := by
  subst hy; unfold allN; congr 2; rw [Nat.add_mul x 1, Nat.one_mul]; simp only [Nat.add_zero]
theorem toNat_mul {a b : Int} (ha : 0 ≤ a) (hb : 0 ≤ b) : (a * b).toNat = a.toNat * b.toNat := Int.toNat_mul ha hb
theorem allN_end {X Y Z : Int} {x : Nat} (hX : Box X Y Z) (hx : x = X.toNat) : allN Y Z x 0 0 = allC X Y Z := by
  subst hx; unfold allN allC vol
  rw [toNat_mul (by have := mulXY hX.1 hX.2.1; omega) (by have := hX.2.2; omega), toNat_mul (by have := hX.1; omega) (by have := hX.2.1; omega)]; rfl
theorem allN_len {X Y Z : Int} {x y z : Nat} (hX : Box X Y Z) (hx : x ≤ 4) (hy : y ≤ 4) (hz : z ≤ 4) : (allN Y Z x y z).length ≤ 1000 := by
  unfold allN
  simp only [List.length_map, List.length_range]
  obtain ⟨_, hY, hZ⟩ := hX
  have h1 : x * Y.toNat ≤ 4 * 4 := Nat.mul_le_mul hx (by omega)
  have h2 : (x * Y.toNat + y) * Z.toNat ≤ 20 * 4 := Nat.mul_le_mul (by omega) (by omega)
  omega

/-! ### A set and the row of its cells -/
structure Rep (X Y Z : Int) (s : BitVec 64) (L : List C) : Prop where
  valid : Valid X Y Z L
  mem : ∀ c, In X Y Z c → (s.getLsbD (cellIx Y Z c) = true ↔ c ∈ L)
  top : ∀ j, j < 64 → s.getLsbD j = true → j < vol X Y Z
theorem Rep.cells {X Y Z : Int} {s : BitVec 64} {L : List C} (h : Rep X Y Z s L) : cellsOf X Y Z s = L :=
  (cells_valid s h.valid.box).ext h.valid fun c hc => by rw [cells_mem h.valid.box, h.mem c hc]; exact ⟨fun x => x.2, fun x => ⟨hc, x⟩⟩
theorem Rep.eq {X Y Z : Int} {s t : BitVec 64} {L : List C} (h : Rep X Y Z s L) (k : Rep X Y Z t L) : s = t := by
  have hX := h.valid.box
  apply BitVec.eq_of_getLsbD_eq
  intro j hj
  rw [Bool.eq_iff_iff]
  constructor
  · intro g
    have hjv := h.top j hj g
    have := h.mem _ (cellAt_in hX hjv)
    have h2 := k.mem _ (cellAt_in hX hjv)
    rw [ix_cellAt hX hjv] at this h2
    exact h2.mpr (this.mp g)
  · intro g
    have hjv := k.top j hj g
    have := h.mem _ (cellAt_in hX hjv)
    have h2 := k.mem _ (cellAt_in hX hjv)
    rw [ix_cellAt hX hjv] at this h2
    exact this.mpr (h2.mp g)
theorem Rep.congr {X Y Z : Int} {s : BitVec 64} {L M : List C} (h : Rep X Y Z s L) (hM : Valid X Y Z M) (e : ∀ c, In X Y Z c → (c ∈ L ↔ c ∈ M)) : Rep X Y Z s M := by
  rw [← h.valid.ext hM e]; exact h
theorem rep_mask {X Y Z : Int} {cs : List C} (h : Valid X Y Z cs) : Rep X Y Z (mask Y Z cs) cs :=
  ⟨h, fun c hc => mask_mem h.box h.inn hc, fun j hj g => by
    rw [mask_get hj, List.any_eq_true] at g
    obtain ⟨c, hc, e⟩ := g
    have := cellIx_lt h.box (h.inn c hc)
    simp at e; omega⟩
theorem those_mem {X Y Z : Int} (hX : Box X Y Z) {f : C → Bool} {c : C} (hc : In X Y Z c) : (thoseTo Y Z f (vol X Y Z)).getLsbD (cellIx Y Z c) = f c := by
  rw [those_get (cellIx_lt64 hX hc), cellAt_ix hX hc]
  simp [cellIx_lt hX hc]
theorem rep_those {X Y Z : Int} (hX : Box X Y Z) (f : C → Bool) : Rep X Y Z (thoseTo Y Z f (vol X Y Z)) ((allC X Y Z).filter f) :=
  ⟨(allC_valid hX).filter f, fun c hc => by rw [those_mem hX hc, List.mem_filter, allC_mem hX]; exact ⟨fun h => ⟨hc, h⟩, fun h => h.2⟩, fun j hj g => by
    rw [those_get hj] at g; simp at g; exact g.1⟩
theorem rep_cells {X Y Z : Int} (hX : Box X Y Z) {s : BitVec 64} (h : ∀ j, j < 64 → s.getLsbD j = true → j < vol X Y Z) : Rep X Y Z s (cellsOf X Y Z s) :=
  ⟨cells_valid s hX, fun c hc => by rw [cells_mem hX]; exact ⟨fun g => ⟨hc, g⟩, fun g => g.2⟩, h⟩
theorem one_get {X Y Z : Int} (hX : Box X Y Z) {c d : C} (hc : In X Y Z c) (hd : In X Y Z d) : ((1#64 : BitVec 64) <<< cellIx Y Z c).getLsbD (cellIx Y Z d) = decide (d = c) := by
  rw [bit_get (cellIx_lt64 hX hd), decide_eq_decide]
  exact ⟨fun e => ix_inj hX hd hc e, fun e => by rw [e]⟩
theorem Rep.one {X Y Z : Int} (hX : Box X Y Z) {c : C} (hc : In X Y Z c) : Rep X Y Z ((1#64 : BitVec 64) <<< cellIx Y Z c) [c] :=
  ⟨⟨hX, by intro d hd; simp at hd; rw [hd]; exact hc, by simp [Rise]⟩, fun d hd => by rw [one_get hX hc hd]; simp, fun j hj g => by
    rw [bit_get hj] at g; simp at g; rw [g]; exact cellIx_lt hX hc⟩
theorem rep_zero {X Y Z : Int} (hX : Box X Y Z) : Rep X Y Z 0#64 [] := ⟨valid_nil hX, by simp, by simp⟩
def without (L : List C) (c : C) : List C := L.filter fun d => !decide (d = c)
theorem Rep.without {X Y Z : Int} {s : BitVec 64} {L : List C} (h : Rep X Y Z s L) {c : C} (hc : In X Y Z c) : Rep X Y Z (s &&& ~~~ (1#64 <<< cellIx Y Z c)) (without L c) :=
  ⟨h.valid.filter _, fun d hd => by
    have hlt := cellIx_lt64 h.valid.box hd
    rw [BitVec.getLsbD_and, BitVec.getLsbD_not, one_get h.valid.box hc hd, Go.Sep.without, List.mem_filter, ← h.mem d hd]
    simp [hlt], fun j hj g => h.top j hj (by rw [BitVec.getLsbD_and] at g; simp at g; exact g.1)⟩
theorem Rep.withC {X Y Z : Int} {s : BitVec 64} {L : List C} (h : Rep X Y Z s L) {c : C} (hc : In X Y Z c) : Rep X Y Z (s ||| 1#64 <<< cellIx Y Z c) (withC L c) :=
  ⟨(withC_valid h.valid hc).1, fun d hd => by
    rw [BitVec.getLsbD_or, one_get h.valid.box hc hd, (withC_valid h.valid hc).2, ← h.mem d hd]; simp, fun j hj g => by
    rw [BitVec.getLsbD_or, bit_get hj] at g
    simp at g
    rcases g with g | g
    · exact h.top j hj g
    · rw [g]; exact cellIx_lt h.valid.box hc⟩
theorem Rep.inter {X Y Z : Int} {s t : BitVec 64} {L M : List C} (h : Rep X Y Z s L) (k : Rep X Y Z t M) : Rep X Y Z (s &&& t) (L.filter fun c => decide (c ∈ M)) :=
  ⟨h.valid.filter _, fun d hd => by rw [BitVec.getLsbD_and, List.mem_filter, ← h.mem d hd]; simp [k.mem d hd], fun j hj g => h.top j hj (by rw [BitVec.getLsbD_and] at g; simp at g; exact g.1)⟩
theorem Rep.diff {X Y Z : Int} {s t : BitVec 64} {L M : List C} (h : Rep X Y Z s L) (k : Rep X Y Z t M) : Rep X Y Z (s &&& ~~~ t) (L.filter fun c => !decide (c ∈ M)) :=
  ⟨h.valid.filter _, fun d hd => by
    have hlt := cellIx_lt64 h.valid.box hd
    rw [BitVec.getLsbD_and, BitVec.getLsbD_not, List.mem_filter, ← h.mem d hd]
    have := k.mem d hd
    cases h3 : t.getLsbD (cellIx Y Z d) <;> simp [h3] at this <;> simp [hlt, this], fun j hj g => h.top j hj (by rw [BitVec.getLsbD_and] at g; simp at g; exact g.1)⟩
theorem Rep.union {X Y Z : Int} {s t : BitVec 64} {L M : List C} (h : Rep X Y Z s L) (k : Rep X Y Z t M) : Rep X Y Z (s ||| t) ((allC X Y Z).filter fun c => decide (c ∈ L) || decide (c ∈ M)) :=
  ⟨(allC_valid h.valid.box).filter _, fun d hd => by
    rw [BitVec.getLsbD_or, List.mem_filter]
    simp [h.mem d hd, k.mem d hd, show d ∈ allC X Y Z from (allC_mem h.valid.box).mpr hd], fun j hj g => by
    rw [BitVec.getLsbD_or] at g
    simp at g
    exact g.elim (h.top j hj) (k.top j hj)⟩
/-- Whether a set is empty, or just another one. -/
theorem Rep.eq_iff {X Y Z : Int} {s t : BitVec 64} {L M : List C} (h : Rep X Y Z s L) (k : Rep X Y Z t M) : s = t ↔ L = M :=
  ⟨fun e => by rw [← h.cells, e, k.cells], fun e => by subst e; exact h.eq k⟩
theorem Rep.zero_iff {X Y Z : Int} {s : BitVec 64} {L : List C} (h : Rep X Y Z s L) : s = 0#64 ↔ L = [] := h.eq_iff (rep_zero h.valid.box)
theorem Rep.has {X Y Z : Int} {s : BitVec 64} {L : List C} (h : Rep X Y Z s L) {c : C} (hc : In X Y Z c) : s.getLsbD (cellIx Y Z c) = decide (c ∈ L) := by
  rw [Bool.eq_iff_iff]; simp [h.mem c hc]
theorem Rep.and_one {X Y Z : Int} {s : BitVec 64} {L : List C} (h : Rep X Y Z s L) {c : C} (hc : In X Y Z c) : decide (s &&& 1#64 <<< cellIx Y Z c = 0#64) = !decide (c ∈ L) := by
  rw [← h.has hc]
  have hz := (h.inter (Rep.one h.valid.box hc)).zero_iff
  rw [Bool.eq_iff_iff, decide_eq_true_eq, hz, List.filter_eq_nil_iff, h.has hc]
  simp
  exact ⟨fun g e => g _ _ _ e rfl, fun g a b c hm e => g (e ▸ hm)⟩

/-! ### Staircases -/
def stairS (X Y Z : Int) (s : BitVec 64) : Bool := (cellsOf X Y Z s).all fun c => decide (thoseTo Y Z (fun e => leC e c) (vol X Y Z) &&& ~~~ s = 0#64)
def ClosedD (X Y Z : Int) (L : List C) : Prop := ∀ c ∈ L, ∀ e, In X Y Z e → leC e c = true → e ∈ L
def stairC (cs : List C) : Bool := cs.all fun c => (List.range 3).all fun k => decide (ci c k - 1 < 0) || decide (lowC c k ∈ cs)
theorem stairS_iff {X Y Z : Int} {s : BitVec 64} {L : List C} (h : Rep X Y Z s L) : stairS X Y Z s = true ↔ ClosedD X Y Z L := by
  have hX := h.valid.box
  unfold stairS
  rw [h.cells, List.all_eq_true]
  refine forall_congr' fun c => forall_congr' fun hc => ?_
  rw [decide_eq_true_eq, ((rep_those hX _).diff h).zero_iff, List.filter_eq_nil_iff]
  constructor
  · intro g e he hle
    have := g e (List.mem_filter.mpr ⟨(allC_mem hX).mpr he, hle⟩)
    simpa using this
  · intro g e he
    obtain ⟨h1, h2⟩ := List.mem_filter.mp he
    have := g e ((allC_mem hX).mp h1) h2
    simp [this]
theorem stairC_iff {X Y Z : Int} {L : List C} (h : Valid X Y Z L) : stairC L = true ↔ ClosedD X Y Z L := by
  unfold stairC
  simp only [List.all_eq_true, List.mem_range, Bool.or_eq_true, decide_eq_true_eq]
  constructor
  · intro g c hc e he hle
    exact down_closed (fun c hc k hk h0 => (g c hc k hk).resolve_left (by omega)) _ c e hc he hle rfl
  · intro g c hc k hk
    by_cases h0 : ci c k - 1 < 0
    · exact .inl h0
    · exact .inr (g c hc _ (low_in hk (h.inn c hc) (by omega)) (low_le (leC_refl c)))
theorem stair_eq {X Y Z : Int} {s : BitVec 64} {L : List C} (h : Rep X Y Z s L) : stairS X Y Z s = stairC L := by
  rw [Bool.eq_iff_iff, stairS_iff h, stairC_iff h.valid]
theorem leC_ix {X Y Z : Int} {c e : C} (hX : Box X Y Z) (hc : In X Y Z c) (he : In X Y Z e) (h : leC e c = true) : cellIx Y Z e ≤ cellIx Y Z c := by
  by_cases g : e = c
  · subst g; omega
  · have : before e c = true := by
      simp only [leC, Bool.and_eq_true, decide_eq_true_eq] at h
      obtain ⟨e1, e2, e3⟩ := e
      obtain ⟨c1, c2, c3⟩ := c
      simp only [Prod.mk.injEq] at g
      simp only at h
      unfold before
      simp only
      split
      · simp; omega
      · split
        · simp; omega
        · split
          · simp; omega
          · exact absurd ⟨by omega, by omega, by omega⟩ g
    exact Nat.le_of_lt ((before_ix hX he hc).mp this)

/-! ### Views -/
def o1 (p : Nat) : Nat := if p = 0 then 1 else 0
def o2 (p : Nat) : Nat := if p = 0 then 2 else if p = 1 then 2 else 1
theorem oth1_cast (p : Nat) : oth1 (p : Int) = (o1 p : Int) := by
  unfold oth1 o1; by_cases h : p = 0 <;> simp [h]
theorem oth2_cast (p : Nat) : oth2 (p : Int) = (o2 p : Int) := by
  unfold oth2 o2
  by_cases h : p = 0
  · simp [h]
  · by_cases h2 : p = 1
    · simp [h2]
    · have : ¬ (p : Int) = 0 := by omega
      have : ¬ (p : Int) = 1 := by omega
      simp [*]
theorem o1_lt {p : Nat} : o1 p < 3 := by unfold o1; split <;> omega
theorem o2_lt {p : Nat} : o2 p < 3 := by unfold o2; split <;> (try split) <;> omega
def lineIx (X Y Z : Int) (p : Nat) (c : C) : Nat := (ci c (o1 p) * ci (X, Y, Z) (o2 p) + ci c (o2 p)).toNat
def linesOf (X Y Z : Int) (p : Nat) : Nat := (ci (X, Y, Z) (o1 p) * ci (X, Y, Z) (o2 p)).toNat
theorem ciS {X Y Z : Int} (hX : Box X Y Z) (k : Nat) : 1 ≤ ci (X, Y, Z) k ∧ ci (X, Y, Z) k ≤ 4 := by
  unfold ci; split
  · exact hX.1
  · split
    · exact hX.2.1
    · exact hX.2.2
theorem ciC {X Y Z : Int} {c : C} (hc : In X Y Z c) (k : Nat) : 0 ≤ ci c k ∧ ci c k < ci (X, Y, Z) k := by
  unfold ci; split
  · exact hc.1
  · split
    · exact hc.2.1
    · exact hc.2.2
theorem line_bd {X Y Z : Int} {c : C} (hX : Box X Y Z) (p : Nat) (hc : In X Y Z c) : ci c (o1 p) * ci (X, Y, Z) (o2 p) + ci c (o2 p) = (lineIx X Y Z p c : Int) ∧ lineIx X Y Z p c < linesOf X Y Z p := by
  have := ix2 (ciC hc (o1 p)) (ciC hc (o2 p)) (ciS hX (o2 p))
  unfold lineIx linesOf
  omega
theorem lines_bd {X Y Z : Int} (hX : Box X Y Z) (p : Nat) : ci (X, Y, Z) (o1 p) * ci (X, Y, Z) (o2 p) = (linesOf X Y Z p : Int) ∧ 1 ≤ linesOf X Y Z p ∧ linesOf X Y Z p ≤ 16 := by
  have := mulXY (ciS hX (o1 p)) (ciS hX (o2 p))
  unfold linesOf
  omega
theorem mulC_bd {X Y Z : Int} {c : C} (hX : Box X Y Z) (hc : In X Y Z c) (j k : Nat) : 0 ≤ ci c j * ci (X, Y, Z) k ∧ ci c j * ci (X, Y, Z) k ≤ 12 := by
  have h1 := ciC hc j
  have h2 := ciS hX j
  exact mul_bd (by omega) (ciS hX k)
theorem lines_div {X Y Z : Int} (hX : Box X Y Z) {p : Nat} (hp : p < 3) : ((vol X Y Z : Nat) : Int).tdiv (ci (X, Y, Z) p) = (linesOf X Y Z p : Int) := by
  rw [← (lines_bd hX p).1, ← vol_cast hX]
  obtain rfl | rfl | rfl : p = 0 ∨ p = 1 ∨ p = 2 := by omega
  · simp only [ci, o1, o2]
    simp
    rw [show X * Y * Z = Y * Z * X by rw [Int.mul_assoc, Int.mul_comm]]
    exact Int.mul_tdiv_cancel _ (by have := hX.1; omega)
  · simp only [ci, o1, o2]
    simp
    rw [show X * Y * Z = X * Z * Y by rw [Int.mul_assoc, Int.mul_assoc, Int.mul_comm Y Z]]
    exact Int.mul_tdiv_cancel _ (by have := hX.2.1; omega)
  · simp only [ci, o1, o2]
    simp
    exact Int.mul_tdiv_cancel _ (by have := hX.2.2; omega)
def viewStep (X Y Z : Int) (p : Nat) (o : List Int) (c : C) : List Int := o.set (lineIx X Y Z p c) (at1 o (lineIx X Y Z p c) + 1)
def viewN (X Y Z : Int) (p : Nat) (cs : List C) (i : Nat) : List Int := (cs.take i).foldl (viewStep X Y Z p) (List.replicate (linesOf X Y Z p) 0)
theorem viewN_zero (X Y Z : Int) (p : Nat) (cs : List C) : viewN X Y Z p cs 0 = List.replicate (linesOf X Y Z p) 0 := by simp [viewN]
theorem viewN_succ {X Y Z : Int} {p : Nat} {cs : List C} {i : Nat} (h : i < cs.length) : viewStep X Y Z p (viewN X Y Z p cs i) (at3 cs i) = viewN X Y Z p cs (i + 1) := by
  unfold viewN
  rw [take_succ3 h, List.foldl_append]; rfl
theorem viewN_length (X Y Z : Int) (p : Nat) (cs : List C) (i : Nat) : (viewN X Y Z p cs i).length = linesOf X Y Z p := by
  unfold viewN
  suffices h : ∀ (l : List C) (o : List Int), (l.foldl (viewStep X Y Z p) o).length = o.length by rw [h]; simp
  intro l
  induction l with
  | nil => intro o; rfl
  | cons c l ih => intro o; rw [List.foldl_cons, ih]; simp [viewStep]
theorem viewN_bd {X Y Z : Int} {p : Nat} {cs : List C} : ∀ (i : Nat), i ≤ cs.length → ∀ j, 0 ≤ at1 (viewN X Y Z p cs i) j ∧ at1 (viewN X Y Z p cs i) j ≤ (i : Int)
  | 0, _, j => by rw [viewN_zero, at1_replicate]; omega
  | i + 1, h, j => by
    have h1 := viewN_bd (X := X) (Y := Y) (Z := Z) (p := p) (cs := cs) i (by omega) j
    have h2 := viewN_bd (X := X) (Y := Y) (Z := Z) (p := p) (cs := cs) i (by omega) (lineIx X Y Z p (at3 cs i))
    rw [← viewN_succ (by omega), viewStep, at1_set]
    split <;> omega
abbrev viewL (X Y Z : Int) (p : Nat) (cs : List C) : List Int := viewN X Y Z p cs cs.length

/-! ### Stacks -/
def stkF (Y : Int) (hs : List Int) (c : C) : Bool := decide (c.2.2 < at1 hs (topIx Y c))
theorem line2 (X Y Z : Int) (c : C) : lineIx X Y Z 2 c = topIx Y c := rfl
theorem lines2 (X Y Z : Int) : linesOf X Y Z 2 = (X * Y).toNat := rfl

/-! ### Sums of heights -/
def sumN (cs : List C) (i : Nat) : Int := ((cs.take i).map fun c => c.2.2).sum
theorem sumN_zero (cs : List C) : sumN cs 0 = 0 := rfl
theorem sumN_succ {cs : List C} {i : Nat} (h : i < cs.length) : sumN cs i + (at3 cs i).2.2 = sumN cs (i + 1) := by
  unfold sumN; rw [take_succ3 h]; simp
theorem sumN_bd {X Y Z : Int} {cs : List C} (hv : Valid X Y Z cs) : ∀ i, i ≤ cs.length → 0 ≤ sumN cs i ∧ sumN cs i ≤ 3 * (i : Int)
  | 0, _ => by simp [sumN_zero]
  | i + 1, h => by
    have ih := sumN_bd hv i (by omega)
    have hc := hv.inn _ (at3_mem (show i < cs.length by omega))
    have hX := hv.box
    simp only [In, Box] at hc hX
    rw [← sumN_succ (by omega)]; omega

/-! ### The heights of a staircase -/
theorem tops_le {X Y : Int} {cs : List C} {j : Nat} {t : Int} (ht : 0 ≤ t) : ∀ i, i ≤ cs.length → (∀ k, k < i → topIx Y (at3 cs k) = j → (at3 cs k).2.2 + 1 ≤ t) → at1 (topsN X Y cs i) j ≤ t
  | 0, _, _ => by rw [topsN_zero, at1_replicate]; exact ht
  | i + 1, h, hk => by
    have ih := tops_le (X := X) ht i (by omega) fun k hk' => hk k (by omega)
    rw [← topsN_succ (by omega), topStep, at1_set]
    split
    · rename_i e
      have := hk i (by omega) e.1
      rw [e.1]; omega
    · exact ih
theorem le_tops {X Y : Int} {cs : List C} {j : Nat} (hj : j < (X * Y).toNat) : ∀ i, i ≤ cs.length → ∀ k, k < i → topIx Y (at3 cs k) = j → (at3 cs k).2.2 + 1 ≤ at1 (topsN X Y cs i) j
  | 0, _, k, hk, _ => by omega
  | i + 1, h, k, hk, e => by
    rw [← topsN_succ (by omega), topStep, at1_set]
    rcases Nat.lt_or_ge k i with g | g
    · have ih := le_tops hj i (by omega) k g e
      split
      · rename_i e2; rw [e2.1]; omega
      · exact ih
    · obtain rfl : k = i := by omega
      rw [if_pos ⟨e, by rw [topsN_length, e]; exact hj⟩]; omega
theorem ix_mono {X Y Z : Int} {cs : List C} (hv : Valid X Y Z cs) {j k : Nat} (hj : j < k) (hk : k < cs.length) : cellIx Y Z (at3 cs j) < cellIx Y Z (at3 cs k) := by
  have := List.pairwise_iff_getElem.mp hv.rise j k (by simp; omega) (by simpa using hk) hj
  simpa [at3, List.getD, show j < cs.length by omega, hk] using this
theorem top_same {X Y Z : Int} {a b : C} (hX : Box X Y Z) (ha : In X Y Z a) (hb : In X Y Z b) (h : topIx Y a = topIx Y b) : a.1 = b.1 ∧ a.2.1 = b.2.1 := by
  have e1 := (ix_bd hX ha).1
  have e2 := (ix_bd hX hb).1
  rw [h, ← e2] at e1
  obtain ⟨a1, a2, a3⟩ := a
  obtain ⟨b1, b2, b3⟩ := b
  obtain ⟨_, hY, hZ⟩ := hX
  simp only [In] at ha hb
  simp only at e1 ⊢
  obtain rfl | rfl | rfl | rfl : Y = 1 ∨ Y = 2 ∨ Y = 3 ∨ Y = 4 := by omega
  all_goals omega
theorem stair_top {X Y Z : Int} {cs : List C} (hv : Valid X Y Z cs) (hc : ClosedD X Y Z cs) {i : Nat} (hi : i < cs.length) : at1 (topsN X Y cs i) (topIx Y (at3 cs i)) = (at3 cs i).2.2 := by
  have hX := hv.box
  have hin := hv.inn _ (at3_mem hi)
  have h0 : 0 ≤ (at3 cs i).2.2 := hin.2.2.1
  have hle : at1 (topsN X Y cs i) (topIx Y (at3 cs i)) ≤ (at3 cs i).2.2 := tops_le h0 i (by omega) fun k hk e => by
    have hik := hv.inn _ (at3_mem (show k < cs.length by omega))
    have h1 := ix_mono hv hk hi
    rw [← before_ix hX hik hin] at h1
    obtain ⟨h2, h3⟩ := top_same hX hik hin e
    simp only [before, h2, h3, ne_eq, not_true, if_false] at h1
    split at h1
    · have := of_decide_eq_true h1; omega
    · simp at h1
  rcases Int.lt_or_le 0 (at3 cs i).2.2 with g | g
  · have hlow : In X Y Z ((at3 cs i).1, (at3 cs i).2.1, (at3 cs i).2.2 - 1) := ⟨hin.1, hin.2.1, by have := hin.2.2; simp only; omega⟩
    have hmem := hc _ (at3_mem hi) _ hlow (by simp [leC]; omega)
    obtain ⟨k, hk, e⟩ := mem_at3 hmem
    have hki : k < i := by
      rcases Nat.lt_or_ge k i with g2 | g2
      · exact g2
      · exfalso
        rcases Nat.eq_or_lt_of_le g2 with e2 | g3
        · subst e2; have := congrArg (fun c : C => c.2.2) e; simp at this; omega
        · have := ix_mono hv g3 hk
          rw [e, ← before_ix hX hin hlow] at this
          simp [before] at this
          omega
    have := le_tops (X := X) (cs := cs) (ix_bd hX hin).2 i (Nat.le_of_lt hi) k hki (by rw [e]; rfl)
    rw [e] at this
    simp only at this
    omega
  · have := (topsN_bd (X := X) (Y := Y) (Z := Z) (cs := cs) (by have := hX.2.2; omega) (fun j hj => inBox_of (hv.inn _ (at3_mem hj))) i (by omega) (topIx Y (at3 cs i))).1
    omega
theorem stair_heights {X Y Z : Int} {cs : List C} (hv : Valid X Y Z cs) (hc : ClosedD X Y Z cs) : ∀ i, i ≤ cs.length → topsN X Y cs i = viewN X Y Z 2 cs i
  | 0, _ => by rw [topsN_zero, viewN_zero]; rfl
  | i + 1, h => by
    have ih := stair_heights hv hc i (by omega)
    have ht := stair_top hv hc (show i < cs.length by omega)
    rw [← topsN_succ (by omega), ← viewN_succ (by omega), topStep, viewStep, ← ih, line2, ht]
    congr 1
    omega

/-! ### The greatest staircase -/
def allBelow (X Y Z : Int) (cs : List C) (c : C) : Bool := (allC X Y Z).all fun e => !leC e c || decide (e ∈ cs)
theorem allBelow_iff {X Y Z : Int} (hX : Box X Y Z) {cs : List C} {c : C} : allBelow X Y Z cs c = true ↔ ∀ e, In X Y Z e → leC e c = true → e ∈ cs := by
  unfold allBelow
  rw [List.all_eq_true]
  constructor
  · intro h e he hle
    have := h e ((allC_mem hX).mpr he)
    simpa [hle] using this
  · intro h e he
    have := h e ((allC_mem hX).mp he)
    cases g : leC e c <;> simp [g] at this ⊢
    exact this
theorem below_zero {X Y Z : Int} {s : BitVec 64} {L : List C} (h : Rep X Y Z s L) (c : C) : decide (thoseTo Y Z (fun e => leC e c) (vol X Y Z) &&& ~~~ s = 0#64) = allBelow X Y Z L c := by
  have hX := h.valid.box
  rw [Bool.eq_iff_iff, decide_eq_true_eq, ((rep_those hX _).diff h).zero_iff, List.filter_eq_nil_iff, allBelow_iff hX]
  constructor
  · intro g e he hle
    have := g e (List.mem_filter.mpr ⟨(allC_mem hX).mpr he, hle⟩)
    simpa using this
  · intro g e he
    obtain ⟨h1, h2⟩ := List.mem_filter.mp he
    have := g e ((allC_mem hX).mp h1) h2
    simp [this]
/-- The reference's greatest staircase: cell after cell. -/
def grtN (X Y Z : Int) (cs : List C) (i : Nat) : List C := ((allC X Y Z).take i).foldl (fun out c => if decide (c ∈ cs) && stairC (withC out c) then withC out c else out) []
theorem grtN_succ {X Y Z : Int} {cs : List C} {i : Nat} (h : i < vol X Y Z) : grtN X Y Z cs (i + 1) = if decide (cellAt Y Z i ∈ cs) && stairC (withC (grtN X Y Z cs i) (cellAt Y Z i)) then withC (grtN X Y Z cs i) (cellAt Y Z i) else grtN X Y Z cs i := by
  unfold grtN
  rw [take_succ3 (by rw [allC_length]; exact h), List.foldl_append, allC_at h]; rfl
theorem leC_trans {a b c : C} (h1 : leC a b = true) (h2 : leC b c = true) : leC a c = true := by
  simp only [leC, Bool.and_eq_true, decide_eq_true_eq] at *; omega
theorem leC_antisymm {a b : C} (h1 : leC a b = true) (h2 : leC b a = true) : a = b := by
  obtain ⟨a1, a2, a3⟩ := a
  obtain ⟨b1, b2, b3⟩ := b
  simp only [leC, Bool.and_eq_true, decide_eq_true_eq, Prod.mk.injEq] at *; omega
theorem grtN_mem {X Y Z : Int} {cs : List C} (hX : Box X Y Z) : ∀ i, i ≤ vol X Y Z → Valid X Y Z (grtN X Y Z cs i) ∧ ∀ c, In X Y Z c → (c ∈ grtN X Y Z cs i ↔ cellIx Y Z c < i ∧ allBelow X Y Z cs c = true)
  | 0, _ => ⟨valid_nil hX, fun c _ => by simp [grtN]⟩
  | i + 1, h => by
    obtain ⟨ih1, ih2⟩ := grtN_mem hX i (by omega)
    have hd := cellAt_in hX (show i < vol X Y Z by omega)
    have hix := ix_cellAt hX (show i < vol X Y Z by omega)
    obtain ⟨w1, w2⟩ := withC_valid ih1 hd
    have key : (decide (cellAt Y Z i ∈ cs) && stairC (withC (grtN X Y Z cs i) (cellAt Y Z i))) = allBelow X Y Z cs (cellAt Y Z i) := by
      rw [Bool.eq_iff_iff, Bool.and_eq_true, decide_eq_true_eq, stairC_iff w1, allBelow_iff hX]
      constructor
      · rintro ⟨h1, h2⟩ e he hle
        rcases (w2 e).mp (h2 _ ((w2 _).mpr (.inr rfl)) e he hle) with g | g
        · have := (allBelow_iff hX).mp ((ih2 e he).mp g).2 e he (leC_refl e)
          exact this
        · rw [g]; exact h1
      · intro hb
        refine ⟨hb _ hd (leC_refl _), fun c hc e he hle => (w2 e).mpr ?_⟩
        rcases (w2 c).mp hc with g | g
        · have hcin := ih1.inn c g
          obtain ⟨h1, h2⟩ := (ih2 c hcin).mp g
          refine .inl ((ih2 e he).mpr ⟨by have := leC_ix hX hcin he hle; omega, (allBelow_iff hX).mpr fun e' he' hle' => (allBelow_iff hX).mp h2 e' he' (leC_trans hle' hle)⟩)
        · subst g
          by_cases g2 : e = cellAt Y Z i
          · exact .inr g2
          · refine .inl ((ih2 e he).mpr ⟨?_, (allBelow_iff hX).mpr fun e' he' hle' => hb e' he' (leC_trans hle' hle)⟩)
            have h1 := leC_ix hX hd he hle
            rcases Nat.eq_or_lt_of_le h1 with g3 | g3
            · exact absurd (ix_inj hX he hd g3) g2
            · omega
    rw [grtN_succ (by omega), key]
    cases hb : allBelow X Y Z cs (cellAt Y Z i) with
    | true =>
      rw [if_pos rfl]
      refine ⟨w1, fun c hc => ?_⟩
      rw [w2, ih2 c hc]
      constructor
      · rintro (⟨g1, g2⟩ | g)
        · exact ⟨by omega, g2⟩
        · subst g; exact ⟨by omega, hb⟩
      · rintro ⟨g1, g2⟩
        rcases Nat.lt_or_ge (cellIx Y Z c) i with g3 | g3
        · exact .inl ⟨g3, g2⟩
        · exact .inr (ix_inj hX hc hd (by omega))
    | false =>
      rw [if_neg (by simp)]
      refine ⟨ih1, fun c hc => ?_⟩
      rw [ih2 c hc]
      constructor
      · rintro ⟨g1, g2⟩; exact ⟨by omega, g2⟩
      · rintro ⟨g1, g2⟩
        refine ⟨?_, g2⟩
        rcases Nat.lt_or_ge (cellIx Y Z c) i with g3 | g3
        · exact g3
        · have := ix_inj hX hc hd (by omega)
          subst this; rw [hb] at g2; simp at g2
theorem grt_cells {X Y Z : Int} {cs : List C} (hX : Box X Y Z) : (allC X Y Z).filter (allBelow X Y Z cs) = grtN X Y Z cs (vol X Y Z) := by
  obtain ⟨h1, h2⟩ := grtN_mem (cs := cs) hX _ (Nat.le_refl _)
  refine ((allC_valid hX).filter _).ext h1 fun c hc => ?_
  rw [h2 c hc, List.mem_filter, allC_mem hX]
  exact ⟨fun g => ⟨cellIx_lt hX hc, g.2⟩, fun g => ⟨hc, g.2⟩⟩

/-! ### Cells of a row for which something is so, one after the other -/
def filN (f : C → Bool) (L : List C) (i : Nat) : List C := (L.take i).filter f
theorem filN_zero (f : C → Bool) (L : List C) : filN f L 0 = [] := by simp [filN]
theorem filN_T {f : C → Bool} {L : List C} {i : Nat} (hi : i < L.length) (h : f (at3 L i) = true) : filN f L (i + 1) = filN f L i ++ [at3 L i] := by
  unfold filN; rw [take_succ3 hi, List.filter_append]; simp only [List.filter_cons, h, List.filter_nil, if_true]
theorem filN_F {f : C → Bool} {L : List C} {i : Nat} (hi : i < L.length) (h : f (at3 L i) = false) : filN f L (i + 1) = filN f L i := by
  unfold filN; rw [take_succ3 hi, List.filter_append]; simp only [List.filter_cons, h, List.filter_nil, Bool.false_eq_true, if_false, List.append_nil]
theorem filN_all (f : C → Bool) (L : List C) : filN f L L.length = L.filter f := by simp [filN]
theorem filN_len (f : C → Bool) (L : List C) (i : Nat) : (filN f L i).length ≤ i := by
  unfold filN; exact Nat.le_trans (List.length_filter_le _ _) (by simp; omega)

/-! ### Steps of the reference's test for a staircase -/
def lowOk (cs : List C) (c : C) (k : Nat) : Bool := decide (ci c k - 1 < 0) || decide (lowC c k ∈ cs)
theorem stairC_eq (cs : List C) : stairC cs = cs.all fun c => (List.range 3).all fun k => lowOk cs c k := rfl
theorem lowOk_no {cs : List C} {c : C} {k : Nat} (hk : k < 3) (h1 : 0 ≤ ci (lowC c k) k) (h2 : ¬ lowC c k ∈ cs) : lowOk cs c k = false := by
  rw [ci_low hk] at h1
  have h3 : ¬ ci c k - 1 < 0 := by omega
  simp only [lowOk, h2, h3, decide_false, Bool.or_self]
theorem lowOk_yes1 {cs : List C} {c : C} {k : Nat} (hk : k < 3) (h1 : ¬ 0 ≤ ci (lowC c k) k) : lowOk cs c k = true := by
  rw [ci_low hk] at h1
  have h3 : ci c k - 1 < 0 := by omega
  simp only [lowOk, h3, decide_true, Bool.true_or]
theorem lowOk_yes2 {cs : List C} {c : C} {k : Nat} (h2 : lowC c k ∈ cs) : lowOk cs c k = true := by
  simp only [lowOk, h2, decide_true, Bool.or_true]
theorem stairC_no {cs : List C} {i k : Nat} (hi : i < cs.length) (hk : k < 3) (h : lowOk cs (at3 cs i) k = false) : stairC cs = false := by
  rw [stairC_eq, List.all_eq_false]
  refine ⟨_, at3_mem hi, ?_⟩
  rw [Bool.not_eq_true, List.all_eq_false]
  exact ⟨k, by simpa using hk, by rw [h]; simp⟩
theorem stairC_yes {cs : List C} (h : ∀ j, j < cs.length → ∀ k, k < 3 → lowOk cs (at3 cs j) k = true) : stairC cs = true := by
  rw [stairC_eq, List.all_eq_true]
  intro c hc
  obtain ⟨j, hj, rfl⟩ := mem_at3 hc
  rw [List.all_eq_true]
  intro k hk
  exact h j hj k (by simpa using hk)
theorem stairS_no {X Y Z : Int} {s : BitVec 64} {i : Nat} (hi : i < (cellsOf X Y Z s).length) (h : ¬ thoseTo Y Z (fun e => leC e (at3 (cellsOf X Y Z s) i)) (vol X Y Z) &&& ~~~ s = 0#64) : stairS X Y Z s = false := by
  unfold stairS
  rw [List.all_eq_false]
  exact ⟨_, at3_mem hi, by simpa using h⟩
theorem stairS_yes {X Y Z : Int} {s : BitVec 64} (h : ∀ j, j < (cellsOf X Y Z s).length → thoseTo Y Z (fun e => leC e (at3 (cellsOf X Y Z s) j)) (vol X Y Z) &&& ~~~ s = 0#64) : stairS X Y Z s = true := by
  unfold stairS
  rw [List.all_eq_true]
  intro c hc
  obtain ⟨j, hj, rfl⟩ := mem_at3 hc
  exact decide_eq_true (h j hj)

/-! ### Whether a cell has a cube -/
theorem has_no {cs : List C} {c : C} (h : ∀ j, j < cs.length → ¬ at3 cs j = c) : decide (c ∈ cs) = false := by
  refine decide_eq_false fun hm => ?_
  obtain ⟨j, hj, e⟩ := mem_at3 hm
  exact h j hj e
theorem has_yes {cs : List C} {c : C} {i : Nat} (hi : i < cs.length) (h : at3 cs i = c) : decide (c ∈ cs) = true := decide_eq_true (h ▸ at3_mem hi)

/-! ### The other staircase -/
def mirC (X Y Z : Int) (c : C) : C := (X - 1 - c.1, Y - 1 - c.2.1, Z - 1 - c.2.2)
theorem mir_in {X Y Z : Int} {c : C} (h : In X Y Z c) : In X Y Z (mirC X Y Z c) := by
  simp only [In, mirC] at *; omega
def othF (X Y Z : Int) (cs : List C) (c : C) : Bool := !decide (mirC X Y Z c ∈ cs)
theorem oth_cells {X Y Z : Int} {cs : List C} (hv : Valid X Y Z cs) : cellsOf X Y Z (thoseTo Y Z (fun c => !(mask Y Z cs).getLsbD (cellIx Y Z (mirC X Y Z c))) (vol X Y Z)) = (allC X Y Z).filter (othF X Y Z cs) := by
  rw [cells_those hv.box]
  refine List.filter_congr fun c hc => ?_
  have := mir_in ((allC_mem hv.box).mp hc)
  rw [(rep_mask hv).has this]; rfl

/-! ### Corners and hollows -/
def cornF (L : List C) (c : C) : Bool := decide (c ∈ L) && stairC (without L c)
def holF (L : List C) (c : C) : Bool := !decide (c ∈ L) && stairC (withC L c)
theorem corn_cells {X Y Z : Int} {cs : List C} (hv : Valid X Y Z cs) : cellsOf X Y Z (thoseTo Y Z (cornF cs) (vol X Y Z)) = cs.filter fun c => stairC (without cs c) := by
  have hX := hv.box
  rw [cells_those hX]
  refine ((allC_valid hX).filter _).ext (hv.filter _) fun c hc => ?_
  simp [List.mem_filter, (allC_mem hX).mpr hc, cornF]
theorem without_len (L : List C) (c : C) : (without L c).length ≤ L.length := List.length_filter_le _ _
theorem without_valid {X Y Z : Int} {L : List C} (h : Valid X Y Z L) (c : C) : Valid X Y Z (without L c) := h.filter _

/-! ### Directions in another order -/
def prm (p q r : Nat) (c : C) : C := (ci c p, ci c q, ci c r)
theorem prm_in {p q r : Nat} {X Y Z : Int} {c : C} (h : In X Y Z c) : In (prm p q r (X, Y, Z)).1 (prm p q r (X, Y, Z)).2.1 (prm p q r (X, Y, Z)).2.2 (prm p q r c) :=
  ⟨ciC h p, ciC h q, ciC h r⟩
theorem prm_box {p q r : Nat} {X Y Z : Int} (h : Box X Y Z) : Box (prm p q r (X, Y, Z)).1 (prm p q r (X, Y, Z)).2.1 (prm p q r (X, Y, Z)).2.2 :=
  ⟨ciS h p, ciS h q, ciS h r⟩

theorem drop_eq {X Y Z : Int} {cs : List C} (hv : Valid X Y Z cs) {f : C → Bool} : decide (thoseTo Y Z f (vol X Y Z) = mask Y Z cs) = decide ((allC X Y Z).filter f = cs) := by
  rw [decide_eq_decide]
  exact (rep_those hv.box f).eq_iff (rep_mask hv)
theorem same_box {X Y Z : Int} {a b : List C} : decide (X = X ∧ Y = Y ∧ Z = Z ∧ a = b) = decide (a = b) := by simp

theorem viewL_length (X Y Z : Int) (p : Nat) (cs : List C) : (viewL X Y Z p cs).length = linesOf X Y Z p := viewN_length X Y Z p cs cs.length
end Go.Sep
