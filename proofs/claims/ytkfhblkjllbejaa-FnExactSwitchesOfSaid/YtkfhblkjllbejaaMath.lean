/- What the functions compute, in plain lists and numbers. -/
import Derived.Test.YtkfhblkjllbejaaCells
namespace Go.Sep
open Go
set_option linter.unusedVariables false
set_option linter.unusedSimpArgs false

/-! ### Boxes, cells, heaps -/
def within (a b c : Int) : Bool := decide (b ≤ a) && decide (a ≤ c)
def sides (X Y Z : Int) : Bool := within X 1 4 && within Y 1 4 && within Z 1 4
theorem sides_bd {X Y Z : Int} (h : sides X Y Z = true) : (1 ≤ X ∧ X ≤ 4) ∧ (1 ≤ Y ∧ Y ≤ 4) ∧ (1 ≤ Z ∧ Z ≤ 4) := by
  simp [sides, within] at h; omega
def inBox (X Y Z : Int) (c : C) : Bool := within c.1 0 (X - 1) && within c.2.1 0 (Y - 1) && within c.2.2 0 (Z - 1)
theorem inBox_bd {X Y Z : Int} {c : C} (h : inBox X Y Z c = true) : (0 ≤ c.1 ∧ c.1 < X) ∧ (0 ≤ c.2.1 ∧ c.2.1 < Y) ∧ (0 ≤ c.2.2 ∧ c.2.2 < Z) := by
  simp [inBox, within] at h; omega

def cmpI (a b : Int) : Int := if a < b then -1 else if b < a then 1 else 0
def cmpL : List Int → List Int → Int
  | [], [] => 0
  | [], _ :: _ => -1
  | _ :: _, [] => 1
  | a :: x, b :: y => if cmpI a b = 0 then cmpL x y else cmpI a b
def cmpC (a b : C) : Int := cmpL [a.1, a.2.1, a.2.2] [b.1, b.2.1, b.2.2]
theorem cmpL_bd : ∀ (x y : List Int), -1 ≤ cmpL x y ∧ cmpL x y ≤ 1
  | [], [] => by simp [cmpL]
  | [], _ :: _ => by simp [cmpL]
  | _ :: _, [] => by simp [cmpL]
  | a :: x, b :: y => by
    have := cmpL_bd x y
    simp only [cmpL]
    split
    · exact this
    · simp only [cmpI]
      split
      · omega
      · split <;> omega
theorem cmpL_drop {x y : List Int} {i : Nat} (hx : i < x.length) (hy : i < y.length) : cmpL (x.drop i) (y.drop i) = if cmpI (at1 x i) (at1 y i) = 0 then cmpL (x.drop (i + 1)) (y.drop (i + 1)) else cmpI (at1 x i) (at1 y i) := by
  rw [List.drop_eq_getElem_cons hx, List.drop_eq_getElem_cons hy]
  simp [cmpL, at1, List.getD, hx, hy]
theorem cmpL_e1 {x y : List Int} {i : Nat} (hq : cmpL x y = cmpL (x.drop i) (y.drop i)) (hx : i < x.length) (hy : y.length ≤ i) : cmpL x y = 1 := by
  rw [hq, List.drop_eq_getElem_cons hx, List.drop_eq_nil_of_le hy]; rfl
theorem cmpL_e2 {x y : List Int} {i : Nat} (hq : cmpL x y = cmpL (x.drop i) (y.drop i)) (hx : x.length ≤ i) (hy : i < y.length) : cmpL x y = -1 := by
  rw [hq, List.drop_eq_getElem_cons hy, List.drop_eq_nil_of_le hx]; rfl
theorem cmpL_e3 {x y : List Int} {i : Nat} (hq : cmpL x y = cmpL (x.drop i) (y.drop i)) (hx : x.length ≤ i) (hy : y.length ≤ i) : cmpL x y = 0 := by
  rw [hq, List.drop_eq_nil_of_le hx, List.drop_eq_nil_of_le hy]; rfl
/-- One cell comes before another one. -/
def before (a b : C) : Bool := if a.1 ≠ b.1 then decide (a.1 < b.1) else if a.2.1 ≠ b.2.1 then decide (a.2.1 < b.2.1) else if a.2.2 ≠ b.2.2 then decide (a.2.2 < b.2.2) else false
theorem cmpC_before (a b : C) : decide (0 ≤ cmpC a b) = !before a b := by
  simp only [cmpC, cmpL, cmpI, before]
  by_cases h1 : a.1 < b.1 <;> by_cases h2 : b.1 < a.1 <;> by_cases h3 : a.2.1 < b.2.1 <;> by_cases h4 : b.2.1 < a.2.1 <;> by_cases h5 : a.2.2 < b.2.2 <;> by_cases h6 : b.2.2 < a.2.2 <;>
    simp [h1, h2, h3, h4, h5, h6] <;> omega
def okAt (X Y Z : Int) (cs : List C) (j : Nat) : Bool := inBox X Y Z (at3 cs j) && (decide (j = 0) || before (at3 cs (j - 1)) (at3 cs j))
theorem okAt_no1 {X Y Z : Int} {cs : List C} {i : Nat} (h : inBox X Y Z (at3 cs i) = false) : okAt X Y Z cs i = false := by simp only [okAt, h, Bool.false_and]
theorem okAt_no2 {X Y Z : Int} {cs : List C} {i : Nat} (hi : 0 < i) (h : 0 ≤ cmpC (at3 cs (i - 1)) (at3 cs i)) : okAt X Y Z cs i = false := by
  have := cmpC_before (at3 cs (i - 1)) (at3 cs i)
  simp only [h, decide_true] at this
  have hb : before (at3 cs (i - 1)) (at3 cs i) = false := by simpa using this.symm
  simp only [okAt, hb, Bool.or_false, Bool.and_eq_false_iff, decide_eq_false_iff_not]
  exact .inr (by omega)
theorem okAt_yes1 {X Y Z : Int} {cs : List C} {i : Nat} (h : inBox X Y Z (at3 cs i) = true) (hi : i = 0) : okAt X Y Z cs i = true := by simp only [okAt, h, hi, decide_true, Bool.true_or, Bool.and_true]; rw [← hi]; exact h
theorem okAt_yes2 {X Y Z : Int} {cs : List C} {i : Nat} (h : inBox X Y Z (at3 cs i) = true) (hc : ¬ 0 ≤ cmpC (at3 cs (i - 1)) (at3 cs i)) : okAt X Y Z cs i = true := by
  have := cmpC_before (at3 cs (i - 1)) (at3 cs i)
  simp only [hc, decide_false] at this
  have hb : before (at3 cs (i - 1)) (at3 cs i) = true := by simpa using this.symm
  simp only [okAt, h, hb, Bool.or_true, Bool.and_true]
theorem okAt_no3 {X Y Z : Int} {cs : List C} {i : Nat} (hi : 0 < i) (h : before (at3 cs (i - 1)) (at3 cs i) = false) : okAt X Y Z cs i = false := by
  simp only [okAt, h, Bool.or_false, Bool.and_eq_false_iff, decide_eq_false_iff_not]
  exact .inr (by omega)
theorem okAt_yes3 {X Y Z : Int} {cs : List C} {i : Nat} (h : inBox X Y Z (at3 cs i) = true) (hc : before (at3 cs (i - 1)) (at3 cs i) = true) : okAt X Y Z cs i = true := by
  simp only [okAt, h, hc, Bool.or_true, Bool.and_true]
theorem all_succ {p : Nat → Prop} {i : Nat} (h : ∀ j, j < i → p j) (hi : p i) : ∀ j, j < i + 1 → p j := fun j hj => by
  rcases Nat.lt_or_ge j i with g | g
  · exact h j g
  · obtain rfl : j = i := by omega
    exact hi
def isHeap (X Y Z : Int) (cs : List C) : Bool := sides X Y Z && (List.range cs.length).all (okAt X Y Z cs)
theorem isHeap_no1 {X Y Z : Int} {cs : List C} (h : sides X Y Z = false) : isHeap X Y Z cs = false := by simp [isHeap, h]
theorem isHeap_no2 {X Y Z : Int} {cs : List C} {i : Nat} (hi : i < cs.length) (h : okAt X Y Z cs i = false) : isHeap X Y Z cs = false := by
  simp only [isHeap, Bool.and_eq_false_iff, List.all_eq_false]
  exact .inr ⟨i, by simpa using hi, by simp [h]⟩
theorem isHeap_yes {X Y Z : Int} {cs : List C} (h : sides X Y Z = true) (ha : ∀ j, j < cs.length → okAt X Y Z cs j = true) : isHeap X Y Z cs = true := by
  simp only [isHeap, h, Bool.true_and, List.all_eq_true]
  intro j hj
  exact ha j (by simpa using hj)
theorem isHeap_sides {X Y Z : Int} {cs : List C} (h : isHeap X Y Z cs = true) : sides X Y Z = true := by simp [isHeap] at h; exact h.1
theorem isHeap_at {X Y Z : Int} {cs : List C} (h : isHeap X Y Z cs = true) {j : Nat} (hj : j < cs.length) : okAt X Y Z cs j = true := by simp [isHeap] at h; exact h.2 j hj
theorem isHeap_in {X Y Z : Int} {cs : List C} (h : isHeap X Y Z cs = true) {j : Nat} (hj : j < cs.length) : inBox X Y Z (at3 cs j) = true := by
  have := isHeap_at h hj; simp [okAt] at this; exact this.1

/-! ### Numbers of a cell -/
def ci (c : C) (j : Nat) : Int := if j = 0 then c.1 else if j = 1 then c.2.1 else c.2.2
theorem tri_get {c : C} {j : Nat} (h : j < 3) : (tri c)[0 + j * 1]? = some (.int .i64 (ci c j)) := by
  rcases j with _ | _ | _ | j
  · rfl
  · rfl
  · rfl
  · omega
theorem tri_getL {a b c : Int} {j : Nat} (h : j < 3) : [Value.int .i64 a, Value.int .i64 b, Value.int .i64 c][0 + j * 1]? = some (.int .i64 (ci (a, b, c) j)) := tri_get (c := (a, b, c)) h
theorem flat_getJ {cs : List C} {k j : Nat} (h : k < cs.length) (hj : j < 3) : (flat cs)[0 + k * 3 + j * 1]? = some (.int .i64 (ci (at3 cs k) j)) := by
  have := flat_get (cs := cs) (k := k) (o := j) h hj
  rw [show 0 + k * 3 + j * 1 = 0 + k * 3 + j by omega, this]
  rcases j with _ | _ | _ | j
  · rfl
  · rfl
  · rfl
  · omega
theorem ci_ext {a b : C} (h : ∀ j, j < 3 → ci a j = ci b j) : a = b := by
  obtain ⟨a1, a2, a3⟩ := a
  obtain ⟨b1, b2, b3⟩ := b
  have h0 := h 0 (by omega)
  have h1 := h 1 (by omega)
  have h2 := h 2 (by omega)
  simp [ci] at h0 h1 h2
  simp [h0, h1, h2]
theorem before_at {a b : C} {i : Nat} (hi : i < 3) (hq : ∀ j, j < i → ci a j = ci b j) (hne : ¬ ci a i = ci b i) : before a b = decide (ci a i < ci b i) := by
  rcases i with _ | _ | _ | i
  · simp [ci] at hne; simp [before, ci, hne]
  · have h0 := hq 0 (by omega)
    simp [ci] at hne h0; simp [before, ci, hne, h0]
  · have h0 := hq 0 (by omega)
    have h1 := hq 1 (by omega)
    simp [ci] at hne h0 h1; simp [before, ci, hne, h0, h1]
  · omega
theorem before_no {a b : C} (hq : ∀ j, j < 3 → ci a j = ci b j) : before a b = false := by
  rw [ci_ext hq]; simp [before]

/-! ### Copies -/
def copyT (c : C) (i : Nat) : List Value := (tri c).take i ++ (tri (0, 0, 0)).drop i
theorem copyT_set {c : C} {i : Nat} (h : i < 3) : (copyT c i).set (0 + i * 1) (.int .i64 (ci c i)) = copyT c (i + 1) := by
  rcases i with _ | _ | _ | i
  · rfl
  · rfl
  · rfl
  · omega
theorem copyT_length {c : C} {i : Nat} (h : i ≤ 3) : (copyT c i).length = 3 := by
  rcases i with _ | _ | _ | _ | i
  · rfl
  · rfl
  · rfl
  · rfl
  · omega
def copyC (cs : List C) (i : Nat) : List C := cs.take i ++ List.replicate (cs.length - i) (0, 0, 0)
theorem copyC_length {cs : List C} {i : Nat} (h : i ≤ cs.length) : (copyC cs i).length = cs.length := by simp [copyC]; omega
theorem copyC_set {cs : List C} {i : Nat} (h : i < cs.length) : (copyC cs i).set i (at3 cs i) = copyC cs (i + 1) := by
  unfold copyC
  rw [List.set_append_right _ _ (by simp; omega)]
  rw [show i - (cs.take i).length = 0 by simp; omega, show cs.length - i = (cs.length - (i + 1)) + 1 by omega, List.replicate_succ, List.set_cons_zero]
  rw [List.take_add_one, show cs[i]? = some (at3 cs i) by simp [at3, List.getD, h]]
  simp
theorem copyC_all (cs : List C) : copyC cs cs.length = cs := by simp [copyC]
theorem copyC_zero (cs : List C) : copyC cs 0 = List.replicate cs.length (0, 0, 0) := by simp [copyC]

/-! ### Marks -/
def markV (k : Int) (m : Nat) (vs : List Value) : List Value := ((List.range m).map fun (q : Nat) => Value.int .i64 (k + (q : Int))) ++ vs.drop m
theorem markV_zero (k : Int) (vs : List Value) : markV k 0 vs = vs := by simp [markV]
theorem markV_length {k : Int} {m : Nat} {vs : List Value} (h : m ≤ vs.length) : (markV k m vs).length = vs.length := by simp [markV]; omega
theorem markV_set {k : Int} {m : Nat} {vs : List Value} {z : Int} (h : m < vs.length) (hz : z = k + (m : Int)) : (markV k m vs).set m (.int .i64 z) = markV k (m + 1) vs := by
  subst hz
  unfold markV
  rw [List.set_append_right _ _ (by simp), List.length_map, List.length_range, Nat.sub_self, List.drop_eq_getElem_cons h, List.set_cons_zero, List.range_succ, List.map_append]
  simp
theorem markV_plain {k : Int} {m : Nat} {vs : List Value} (h : vs.all plainA = true) : (markV k m vs).all plainA = true := by
  simp only [markV, List.all_append, Bool.and_eq_true, List.all_eq_true]
  rw [List.all_eq_true] at h
  refine ⟨fun v hv => ?_, fun v hv => h v (List.mem_of_mem_drop hv)⟩
  simp only [List.mem_map] at hv
  obtain ⟨q, _, rfl⟩ := hv
  rfl
def upto (k : Int) (m : Nat) : List Int := (List.range m).map fun (q : Nat) => k + (q : Int)
theorem upto_length (k : Int) (m : Nat) : (upto k m).length = m := by simp [upto]
theorem upto_at {k : Int} {m i : Nat} (h : i < m) : at1 (upto k m) i = k + (i : Int) := by simp [upto, at1, List.getD, h]
theorem markV_ints (k : Int) (zs : List Int) : markV k zs.length (ints zs) = ints (upto k zs.length) := by
  rw [markV, List.drop_eq_nil_of_le (by simp [ints]), List.append_nil, ints, upto, List.map_map]
  rfl
def markC (k : Int) : Nat → List C
  | 0 => []
  | m + 1 => (k, k + 1, k + 2) :: markC (k + 3) m
theorem markC_length : ∀ (k : Int) (m : Nat), (markC k m).length = m
  | _, 0 => rfl
  | k, m + 1 => by simp [markC, markC_length (k + 3) m]
theorem flat_markC : ∀ (k : Int) (m : Nat), flat (markC k m) = (List.range (3 * m)).map fun (q : Nat) => Value.int .i64 (k + (q : Int))
  | _, 0 => rfl
  | k, m + 1 => by
    rw [markC, flat, flat_markC (k + 3) m, show 3 * (m + 1) = 3 * m + 1 + 1 + 1 by omega]
    simp only [List.range_succ_eq_map, List.map_cons, List.map_map]
    congr 1
    · simp
    congr 1
    congr 1
    refine List.map_congr_left fun q _ => ?_
    simp only [Function.comp, Nat.succ_eq_add_one, Int.natCast_add, Int.cast_ofNat_Int]
    congr 1
    omega
theorem markV_flat (k : Int) (cs : List C) : markV k (3 * cs.length) (flat cs) = flat (markC k cs.length) := by
  rw [flat_markC, markV, List.drop_eq_nil_of_le (by rw [flat_length]; omega), List.append_nil]
theorem markC_at : ∀ {k : Int} {m i : Nat}, i < m → at3 (markC k m) i = (k + 3 * (i : Int), k + 3 * (i : Int) + 1, k + 3 * (i : Int) + 2)
  | k, m + 1, 0, _ => by simp [markC, at3, List.getD]
  | k, m + 1, i + 1, h => by
    have := markC_at (k := k + 3) (m := m) (i := i) (by omega)
    simp only [at3, List.getD, markC, List.getElem?_cons_succ] at this ⊢
    rw [this]
    simp only [Prod.mk.injEq, Int.natCast_add, Int.cast_ofNat_Int]
    omega
/-- What `held..` says of a row of cells. -/
def heldC (k : Int) (cs : List C) : Int := if cs = markC k cs.length then k + 3 * (cs.length : Int) else -1
theorem heldC_no {k : Int} {cs : List C} {i j : Nat} (hi : i < cs.length) (hj : j < 3) (h : ¬ ci (at3 cs i) j = k + 3 * (i : Int) + (j : Int)) : heldC k cs = -1 := by
  unfold heldC
  rw [if_neg]
  intro e
  apply h
  rw [e, markC_at hi]
  rcases j with _ | _ | _ | j
  · simp [ci]
  · simp [ci]
  · simp [ci]
  · omega
theorem heldC_yes {k : Int} {cs : List C} (h : ∀ i, i < cs.length → ∀ j, j < 3 → ci (at3 cs i) j = k + 3 * (i : Int) + (j : Int)) : heldC k cs = k + 3 * (cs.length : Int) := by
  unfold heldC
  rw [if_pos]
  refine List.ext_getElem (markC_length _ _).symm fun i h1 h2 => ?_
  have e1 : at3 cs i = cs[i] := by simp [at3, List.getD, h1]
  have e2 : at3 (markC k cs.length) i = (markC k cs.length)[i] := by simp [at3, List.getD, h2]
  rw [← e1, ← e2, markC_at h1]
  apply ci_ext
  intro j hj
  rw [h i h1 j hj]
  rcases j with _ | _ | _ | j
  · simp [ci]
  · simp [ci]
  · simp [ci]
  · omega
theorem heldC_bd {k : Int} {cs : List C} (h : 0 ≤ k) : heldC k cs = -1 ∨ 0 ≤ heldC k cs := by unfold heldC; split <;> omega
def heldI (k : Int) (zs : List Int) : Int := if zs = upto k zs.length then k + (zs.length : Int) else -1
theorem heldI_no {k : Int} {zs : List Int} {i : Nat} (hi : i < zs.length) (h : ¬ at1 zs i = k + (i : Int)) : heldI k zs = -1 := by
  unfold heldI
  rw [if_neg]
  intro e
  exact h (by rw [e, upto_at hi])
theorem heldI_yes {k : Int} {zs : List Int} (h : ∀ i, i < zs.length → at1 zs i = k + (i : Int)) : heldI k zs = k + (zs.length : Int) := by
  unfold heldI
  rw [if_pos]
  refine List.ext_getElem (upto_length _ _).symm fun i h1 h2 => ?_
  have e1 : at1 zs i = zs[i] := by simp [at1, List.getD, h1]
  have e2 : at1 (upto k zs.length) i = (upto k zs.length)[i] := by simp [at1, List.getD, h2]
  rw [← e1, ← e2, upto_at h1, h i h1]
theorem heldC_mark (k : Int) (m : Nat) : heldC k (markC k m) = k + 3 * (m : Int) := by simp [heldC, markC_length]
theorem heldI_mark (k : Int) (m : Nat) : heldI k (upto k m) = k + (m : Int) := by simp [heldI, upto_length]

theorem ext1 {x y : List Int} (hl : x.length = y.length) (h : ∀ i, i < x.length → at1 x i = at1 y i) : x = y := by
  refine List.ext_getElem hl fun i h1 h2 => ?_
  have := h i h1
  simpa [at1, List.getD, h1, h2] using this
theorem ext3 {x y : List C} (hl : x.length = y.length) (h : ∀ i, i < x.length → at3 x i = at3 y i) : x = y := by
  refine List.ext_getElem hl fun i h1 h2 => ?_
  have := h i h1
  simpa [at3, List.getD, h1, h2] using this

/-! ### A slice of cells that a law was handed -/
def RowC (H : Heap) (n : Nat) (sv : Value) (cs : List C) : Prop :=
  (cs = [] ∧ sv = .slice none 0 2) ∨ ∃ b, b < n ∧ sv = .slice (some ⟨b, 0, none⟩) cs.length 3 ∧ H b = some (.cells true (flat cs))
theorem RowC.form {H : Heap} {n : Nat} {sv : Value} {cs : List C} (h : RowC H n sv cs) : ∃ p e, sv = .slice p cs.length e := by
  rcases h with ⟨rfl, rfl⟩ | ⟨b, _, rfl, _⟩
  · exact ⟨_, _, rfl⟩
  · exact ⟨_, _, rfl⟩
theorem RowC.keep {H G : Heap} {n m : Nat} {sv : Value} {cs : List C} (h : RowC H n sv cs) (hm : n ≤ m) (hG : ∀ x b, x < n → H x = some b → G x = some b) : RowC G m sv cs := by
  rcases h with h | ⟨b, hb, h1, h2⟩
  · exact .inl h
  · exact .inr ⟨b, by omega, h1, hG b _ hb h2⟩
/-- Numbers, three by three. -/
def trip : List Int → List C
  | a :: b :: c :: r => (a, b, c) :: trip r
  | _ => []
theorem flat_trip : ∀ (m : Nat) (zs : List Int), zs.length = m * 3 → ints zs = flat (trip zs) ∧ (trip zs).length = m
  | 0, [], _ => ⟨rfl, rfl⟩
  | 0, _ :: _, h => by simp at h
  | m + 1, [], h => by simp at h
  | m + 1, [_], h => by simp at h; omega
  | m + 1, [_, _], h => by simp at h; omega
  | m + 1, a :: b :: c :: r, h => by
    obtain ⟨h1, h2⟩ := flat_trip m r (by simp at h; omega)
    exact ⟨by simp only [trip, flat, ← h1]; rfl, by simp [trip, h2]⟩
theorem RowV.cells {H : Heap} {n : Nat} {sv : Value} {zs : List Int} (h : RowV H n 3 sv zs) : RowC H n sv (trip zs) ∧ (trip zs).length ≤ 9223372036854775807 := by
  rcases h with ⟨rfl, rfl⟩ | ⟨b, len, h1, rfl, h3, h4, h5⟩
  · exact ⟨.inl ⟨rfl, rfl⟩, by simp [trip]⟩
  · obtain ⟨e1, e2⟩ := flat_trip len zs h4
    exact ⟨.inr ⟨b, h1, by rw [e2], by rw [← e1]; exact h5⟩, by omega⟩

/-! ### Columns -/
theorem mul_bd {a b : Int} (ha : 0 ≤ a ∧ a ≤ 3) (hb : 1 ≤ b ∧ b ≤ 4) : 0 ≤ a * b ∧ a * b ≤ 12 := by
  obtain rfl | rfl | rfl | rfl : b = 1 ∨ b = 2 ∨ b = 3 ∨ b = 4 := by omega
  all_goals omega
theorem mulXY {a b : Int} (ha : 1 ≤ a ∧ a ≤ 4) (hb : 1 ≤ b ∧ b ≤ 4) : 1 ≤ a * b ∧ a * b ≤ 16 := by
  obtain rfl | rfl | rfl | rfl : b = 1 ∨ b = 2 ∨ b = 3 ∨ b = 4 := by omega
  all_goals omega
theorem ix2 {a b X Y : Int} (ha : 0 ≤ a ∧ a < X) (hb : 0 ≤ b ∧ b < Y) (hY : 1 ≤ Y ∧ Y ≤ 4) : 0 ≤ a * Y + b ∧ a * Y + b < X * Y := by
  obtain rfl | rfl | rfl | rfl : Y = 1 ∨ Y = 2 ∨ Y = 3 ∨ Y = 4 := by omega
  all_goals omega
def oth1 (d : Int) : Int := if d = 0 then 1 else 0
def oth2 (d : Int) : Int := if d = 0 then 2 else if d = 1 then 2 else 1
def topIx (Y : Int) (c : C) : Nat := (c.1 * Y + c.2.1).toNat
def topStep (Y : Int) (o : List Int) (c : C) : List Int := o.set (topIx Y c) (max (at1 o (topIx Y c)) (c.2.2 + 1))
def topsN (X Y : Int) (cs : List C) (i : Nat) : List Int := (cs.take i).foldl (topStep Y) (List.replicate (X * Y).toNat 0)
theorem take_succ3 {cs : List C} {i : Nat} (h : i < cs.length) : cs.take (i + 1) = cs.take i ++ [at3 cs i] := by
  rw [List.take_add_one, show cs[i]? = some (at3 cs i) by simp [at3, List.getD, h]]; rfl
theorem take_succ1 {cs : List Int} {i : Nat} (h : i < cs.length) : cs.take (i + 1) = cs.take i ++ [at1 cs i] := by
  rw [List.take_add_one, show cs[i]? = some (at1 cs i) by simp [at1, List.getD, h]]; rfl
theorem topsN_zero (X Y : Int) (cs : List C) : topsN X Y cs 0 = List.replicate (X * Y).toNat 0 := by simp [topsN]
theorem topsN_succ {X Y : Int} {cs : List C} {i : Nat} (h : i < cs.length) : topStep Y (topsN X Y cs i) (at3 cs i) = topsN X Y cs (i + 1) := by
  unfold topsN
  rw [take_succ3 h, List.foldl_append]; rfl
theorem topsN_length (X Y : Int) (cs : List C) (i : Nat) : (topsN X Y cs i).length = (X * Y).toNat := by
  unfold topsN
  suffices h : ∀ (l : List C) (o : List Int), (l.foldl (topStep Y) o).length = o.length by rw [h]; simp
  intro l
  induction l with
  | nil => intro o; rfl
  | cons c l ih => intro o; rw [List.foldl_cons, ih]; simp [topStep]
theorem ix_bd {X Y Z : Int} {c : C} (hX : (1 ≤ X ∧ X ≤ 4) ∧ (1 ≤ Y ∧ Y ≤ 4) ∧ (1 ≤ Z ∧ Z ≤ 4)) (hc : (0 ≤ c.1 ∧ c.1 < X) ∧ (0 ≤ c.2.1 ∧ c.2.1 < Y) ∧ (0 ≤ c.2.2 ∧ c.2.2 < Z)) :
    c.1 * Y + c.2.1 = (topIx Y c : Int) ∧ topIx Y c < (X * Y).toNat := by
  have := ix2 hc.1 hc.2.1 hX.2.1
  unfold topIx
  omega
theorem at1_set {o : List Int} {k j : Nat} {z : Int} : at1 (o.set k z) j = if k = j ∧ k < o.length then z else at1 o j := by
  simp only [at1, List.getD, List.getElem?_set]
  by_cases h : k = j
  · subst h
    by_cases h2 : k < o.length
    · simp [h2]
    · simp [h2]
  · simp [h]
theorem at1_replicate (m j : Nat) : at1 (List.replicate m 0) j = 0 := by
  simp only [at1, List.getD, List.getElem?_replicate]; split <;> rfl
theorem topsN_bd {X Y Z : Int} {cs : List C} (hZ : 0 ≤ Z) (hin : ∀ j, j < cs.length → inBox X Y Z (at3 cs j) = true) : ∀ (i : Nat), i ≤ cs.length → ∀ j, 0 ≤ at1 (topsN X Y cs i) j ∧ at1 (topsN X Y cs i) j ≤ Z
  | 0, _, j => by rw [topsN_zero, at1_replicate]; omega
  | i + 1, h, j => by
    have h1 := topsN_bd hZ hin i (by omega) j
    have h2 := topsN_bd hZ hin i (by omega) (topIx Y (at3 cs i))
    have hc := inBox_bd (hin i (by omega))
    rw [← topsN_succ (by omega), topStep, at1_set]
    split
    · omega
    · exact h1

/-! ### How many of each -/
def countStep (o : List Int) (h : Int) : List Int := o.set h.toNat (at1 o h.toNat + 1)
def countsN (Z : Int) (hs : List Int) (i : Nat) : List Int := (hs.take i).foldl countStep (List.replicate (Z + 1).toNat 0)
theorem countsN_zero (Z : Int) (hs : List Int) : countsN Z hs 0 = List.replicate (Z + 1).toNat 0 := by simp [countsN]
theorem countsN_succ {Z : Int} {hs : List Int} {i : Nat} (h : i < hs.length) : countStep (countsN Z hs i) (at1 hs i) = countsN Z hs (i + 1) := by
  unfold countsN
  rw [take_succ1 h, List.foldl_append]; rfl
theorem countsN_length (Z : Int) (hs : List Int) (i : Nat) : (countsN Z hs i).length = (Z + 1).toNat := by
  unfold countsN
  suffices h : ∀ (l : List Int) (o : List Int), (l.foldl countStep o).length = o.length by rw [h]; simp
  intro l
  induction l with
  | nil => intro o; rfl
  | cons c l ih => intro o; rw [List.foldl_cons, ih]; simp [countStep]
theorem countsN_bd {Z : Int} {hs : List Int} : ∀ (i : Nat), i ≤ hs.length → ∀ j, 0 ≤ at1 (countsN Z hs i) j ∧ at1 (countsN Z hs i) j ≤ (i : Int)
  | 0, _, j => by rw [countsN_zero, at1_replicate]; omega
  | i + 1, h, j => by
    have h1 := countsN_bd (Z := Z) (hs := hs) i (by omega) j
    have h2 := countsN_bd (Z := Z) (hs := hs) i (by omega) (at1 hs i).toNat
    rw [← countsN_succ (by omega), countStep, at1_set]
    split <;> omega
end Go.Sep
