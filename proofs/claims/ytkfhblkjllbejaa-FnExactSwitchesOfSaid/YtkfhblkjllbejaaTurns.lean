/- The 24 turnings. -/
import Derived.Test.YtkfhblkjllbejaaSights
namespace Go.Sep
open Go
set_option linter.unusedVariables false
set_option linter.unusedSimpArgs false

variable {P : Program} {ts : Temps} {H : Heap} {n : Nat}
/-- A calculation on two values, its outcome told. -/
theorem e_bin {op : BinOp} {t u : TypeId} {x y : Operand} {a b v : Value} (hx : ev ts x = some a) (hy : ev ts y = some b) (h : cBin P op t a b = some v) : E P (.binOp op t x y u) ts H n v H n :=
  ⟨by simp only [cop, ev2, hx, hy, h]; rfl, rfl⟩
theorem shr_2 {t : TypeId} {s : Nat} (h : s < 8) : cBin P .shr t (.int .i64 (s : Int)) (.int .u64 2) = some (.int .i64 ((s / 4 : Nat) : Int)) := by
  obtain rfl | rfl | rfl | rfl | rfl | rfl | rfl | rfl : s = 0 ∨ s = 1 ∨ s = 2 ∨ s = 3 ∨ s = 4 ∨ s = 5 ∨ s = 6 ∨ s = 7 := by omega
  all_goals rfl
theorem shr_1 {t : TypeId} {s : Nat} (h : s < 8) : cBin P .shr t (.int .i64 (s : Int)) (.int .u64 1) = some (.int .i64 ((s / 2 : Nat) : Int)) := by
  obtain rfl | rfl | rfl | rfl | rfl | rfl | rfl | rfl : s = 0 ∨ s = 1 ∨ s = 2 ∨ s = 3 ∨ s = 4 ∨ s = 5 ∨ s = 6 ∨ s = 7 := by omega
  all_goals rfl
theorem and_1 {t : TypeId} {s : Nat} (h : s < 8) : cBin P .and t (.int .i64 (s : Int)) (.int .i64 1) = some (.int .i64 ((s % 2 : Nat) : Int)) := by
  obtain rfl | rfl | rfl | rfl | rfl | rfl | rfl | rfl : s = 0 ∨ s = 1 ∨ s = 2 ∨ s = 3 ∨ s = 4 ∨ s = 5 ∨ s = 6 ∨ s = 7 := by omega
  all_goals rfl
/-- The signs that belong to a number below 8. -/
def sgn8 (s : Nat) : C := (((s / 4 : Nat) : Int), ((s / 2 % 2 : Nat) : Int), ((s % 2 : Nat) : Int))
def invN (o : C) : Int := (if o.1 > o.2.1 then 1 else 0) + ((if o.1 > o.2.2 then 1 else 0) + (if o.2.1 > o.2.2 then 1 else 0))
def okT (i s : Nat) : Bool := decide ((invN (at3 ORD i) + (sgn8 s).1 + (sgn8 s).2.1 + (sgn8 s).2.2).tmod 2 = 0)
/-- The turnings of the first orders, and of some signs of the next one. -/
def trnS (i s : Nat) : List (C × C) := ((List.range s).filter (okT i)).map fun j => (at3 ORD i, sgn8 j)
def trnN : Nat → List (C × C)
  | 0 => []
  | i + 1 => trnN i ++ trnS i 8
def trnA (i s : Nat) : List (C × C) := trnN i ++ trnS i s
def flat6 : List (C × C) → List Value
  | [] => []
  | e :: l => tri e.1 ++ (tri e.2 ++ flat6 l)
theorem flat6_length : ∀ l : List (C × C), (flat6 l).length = l.length * 6
  | [] => rfl
  | e :: l => by simp [flat6, tri, flat6_length l]; omega
theorem flat6_snoc : ∀ (l : List (C × C)) (e : C × C), flat6 l ++ (tri e.1 ++ tri e.2) = flat6 (l ++ [e])
  | [], e => by simp [flat6]
  | d :: l, e => by simp only [flat6, List.cons_append, List.append_assoc]; rw [flat6_snoc l e]
theorem flat6_plain : ∀ l : List (C × C), (flat6 l).all plainA = true
  | [] => rfl
  | e :: l => by simp [flat6, tri, plainA, flat6_plain l]
theorem trnS_T {i s : Nat} (h : okT i s = true) : trnS i (s + 1) = trnS i s ++ [(at3 ORD i, sgn8 s)] := by
  unfold trnS; rw [List.range_succ, List.filter_append]; simp [List.filter, h]
theorem trnS_F {i s : Nat} (h : okT i s = false) : trnS i (s + 1) = trnS i s := by
  unfold trnS; rw [List.range_succ, List.filter_append]; simp [List.filter, h]
theorem trnA_T {i s : Nat} (h : okT i s = true) : trnA i s ++ [(at3 ORD i, sgn8 s)] = trnA i (s + 1) := by unfold trnA; rw [trnS_T h, List.append_assoc]
theorem trnA_F {i s : Nat} (h : okT i s = false) : trnA i s = trnA i (s + 1) := by unfold trnA; rw [trnS_F h]
theorem trnA_8 (i : Nat) : trnA i 8 = trnA (i + 1) 0 := by simp [trnA, trnN, trnS]
theorem trnA_len {i s : Nat} (hi : i ≤ 6) (hs : s ≤ 8) : (trnA i s).length ≤ 64 := by
  have h : ∀ i s, (trnS i s).length ≤ s := fun i s => by unfold trnS; rw [List.length_map]; exact Nat.le_trans (List.length_filter_le _ _) (by simp)
  have h2 : ∀ i, (trnN i).length ≤ 8 * i := by
    intro i
    induction i with
    | zero => simp [trnN]
    | succ i ih => have := h i 8; simp [trnN]; omega
  have := h i s; have := h2 i
  simp [trnA]; omega
def TRN : List (C × C) := trnA 6 0
theorem TRN_length : TRN.length = 24 := by decide +kernel
/-- Inversions, one after the other. -/
def odS (i k : Nat) : Nat → Int
  | 0 => 0
  | l + 1 => if ci (at3 ORD i) k < ci (at3 ORD i) l then odS i k l + 1 else odS i k l
def odN (i : Nat) : Nat → Int
  | 0 => 0
  | k + 1 => odN i k + odS i k k
theorem odS_T {i k l : Nat} (h : ci (at3 ORD i) k < ci (at3 ORD i) l) : odS i k l + 1 = odS i k (l + 1) := by simp only [odS, if_pos h]
theorem odS_F {i k l : Nat} (h : ¬ ci (at3 ORD i) k < ci (at3 ORD i) l) : odS i k l = odS i k (l + 1) := by simp only [odS, if_neg h]
theorem odS_bd (i k : Nat) : ∀ l : Nat, 0 ≤ odS i k l ∧ odS i k l ≤ (l : Int)
  | 0 => by simp [odS]
  | l + 1 => by have := odS_bd i k l; simp only [odS]; split <;> omega
theorem odN_bd (i : Nat) : ∀ k : Nat, 0 ≤ odN i k ∧ odN i k ≤ 3 * (k : Int) ∨ 3 < k
  | 0 => by simp [odN]
  | k + 1 => by have h := odN_bd i k; have h2 := odS_bd i k k; simp only [odN]; omega
theorem odN_all {i : Nat} (h : i < 6) : odN i 3 = invN (at3 ORD i) := by
  obtain rfl | rfl | rfl | rfl | rfl | rfl : i = 0 ∨ i = 1 ∨ i = 2 ∨ i = 3 ∨ i = 4 ∨ i = 5 := by omega
  all_goals decide +kernel
/-- The order that begins with two directions. -/
def pIx (a b : Nat) : Nat := 2 * a + (if a < b then b - 1 else b)
theorem pIx_lt {a b : Nat} (ha : a < 3) (hb : b < 3) (h : a ≠ b) : pIx a b < 6 := by unfold pIx; split <;> omega
theorem pIx_same {a : Nat} : pIx a (a + 1) = pIx a a := by unfold pIx; split <;> split <;> omega
theorem pIx_next {a b : Nat} (h : a ≠ b) : pIx a (b + 1) = pIx a b + 1 := by unfold pIx; split <;> split <;> omega
theorem pIx_end {a : Nat} (h : a < 3) : pIx a 3 = pIx (a + 1) 0 := by unfold pIx; split <;> split <;> omega
theorem ord_ix {a b : Nat} (ha : a < 3) (hb : b < 3) (h : a ≠ b) : at3 ORD (pIx a b) = ((a : Int), (b : Int), (3 : Int) - a - b) := by
  obtain rfl | rfl | rfl : a = 0 ∨ a = 1 ∨ a = 2 := by omega
  all_goals
    obtain rfl | rfl | rfl : b = 0 ∨ b = 1 ∨ b = 2 := by omega
    all_goals first | exact absurd rfl h | decide
theorem okT_eq {i s : Nat} (hi : i < 6) (hs : s < 8) : decide ((invN (at3 ORD i)).tmod 2 = ((sgn8 s).1 + (sgn8 s).2.1 + (sgn8 s).2.2).tmod 2) = okT i s := by
  revert s
  revert i
  decide +kernel
/-! ### A cell turned -/
def at6 (l : List (C × C)) (j : Nat) : C × C := l.getD j ((0, 0, 0), (0, 0, 0))
/-- Turned: the order's components, some of them mirrored in the new box. -/
def tK (o g S c : C) (k : Nat) : Int := if ci g k = 1 then ci S k - 1 - ci c (ci o k).toNat else ci c (ci o k).toNat
def tC (o g S c : C) : C := (tK o g S c 0, tK o g S c 1, tK o g S c 2)
/-- The sides of the new box. -/
def tS (o S : C) : C := (ci S (ci o 0).toNat, ci S (ci o 1).toNat, ci S (ci o 2).toNat)
structure Turn (e : C × C) : Prop where
  o : ∀ k, k < 3 → 0 ≤ ci e.1 k ∧ ci e.1 k < 3
  g : ∀ k, k < 3 → ci e.2 k = 0 ∨ ci e.2 k = 1
theorem turn_all : TRN.all (fun e => (List.range 3).all fun k => decide ((0 ≤ ci e.1 k ∧ ci e.1 k < 3) ∧ (ci e.2 k = 0 ∨ ci e.2 k = 1))) = true := by decide +kernel
theorem turn_at {j : Nat} (h : j < 24) : Turn (at6 TRN j) := by
  have h2 := turn_all
  simp only [List.all_eq_true, List.mem_range, decide_eq_true_eq] at h2
  have h3 : at6 TRN j ∈ TRN := by
    have hl : j < TRN.length := by rw [TRN_length]; exact h
    simp only [at6, List.getD_eq_getElem?_getD, List.getElem?_eq_getElem hl, Option.getD_some]
    exact List.getElem_mem hl
  exact ⟨fun k hk => (h2 _ h3 k hk).1, fun k hk => (h2 _ h3 k hk).2⟩
theorem tK_in {e : C × C} (ht : Turn e) {S c : C} (hc : ∀ k, k < 3 → 0 ≤ ci c k ∧ ci c k < ci S k) {k : Nat} (hk : k < 3) : 0 ≤ tK e.1 e.2 (tS e.1 S) c k ∧ tK e.1 e.2 (tS e.1 S) c k < ci (tS e.1 S) k := by
  have h1 := ht.o k hk
  have h2 := hc (ci e.1 k).toNat (by omega)
  have h3 : ci (tS e.1 S) k = ci S (ci e.1 k).toNat := by
    obtain rfl | rfl | rfl : k = 0 ∨ k = 1 ∨ k = 2 := by omega
    all_goals rfl
  unfold tK
  rw [h3]
  split <;> omega
theorem ci_tC (o g S c : C) {k : Nat} (hk : k < 3) : ci (tC o g S c) k = tK o g S c k := by
  obtain rfl | rfl | rfl : k = 0 ∨ k = 1 ∨ k = 2 := by omega
  all_goals rfl
theorem mix_at {z R : C} {k : Nat} (hk : k < 3) {v : Int} (hv : v = ci R k) : (tri (mixC z R k)).set (0 + k * 1) (.int .i64 v) = tri (mixC z R (k + 1)) := by
  subst hv
  obtain rfl | rfl | rfl : k = 0 ∨ k = 1 ∨ k = 2 := by omega
  all_goals rfl
theorem mix_at2 {z R : C} {k : Nat} (hk : k < 3) {a : Value} {v : Int} (hv : v = ci R k) : ((tri (mixC z R k)).set (0 + k * 1) a).set (0 + k * 1) (.int .i64 v) = tri (mixC z R (k + 1)) := by
  rw [List.set_set]; exact mix_at hk hv
theorem tK_1 {o g S c : C} {k : Nat} (h : ci g k = 1) : ci S k - 1 - ci c (ci o k).toNat = tK o g S c k := by unfold tK; rw [if_pos h]
theorem tK_0 {o g S c : C} {k : Nat} (h : ¬ ci g k = 1) : ci c (ci o k).toNat = tK o g S c k := by unfold tK; rw [if_neg h]
theorem tri_ix {c : C} {k : Nat} (hk : k < 3) : (tri c)[((k : Nat) : Int).toNat * 1]? = some (.int .i64 (ci c k)) := by
  obtain rfl | rfl | rfl : k = 0 ∨ k = 1 ∨ k = 2 := by omega
  all_goals rfl
theorem tri_get2 {a c : C} {k : Nat} (hk : k < 3) : (tri a ++ tri c)[0 + 3 + k * 1]? = some (.int .i64 (ci c k)) := by
  obtain rfl | rfl | rfl : k = 0 ∨ k = 1 ∨ k = 2 := by omega
  all_goals rfl
theorem tS_box {X Y Z : Int} (hX : Box X Y Z) (o : C) : Box (tS o (X, Y, Z)).1 (tS o (X, Y, Z)).2.1 (tS o (X, Y, Z)).2.2 := ⟨ciS hX _, ciS hX _, ciS hX _⟩
theorem tC_in {X Y Z : Int} {e : C × C} (ht : Turn e) {c : C} (hc : In X Y Z c) : In (tS e.1 (X, Y, Z)).1 (tS e.1 (X, Y, Z)).2.1 (tS e.1 (X, Y, Z)).2.2 (tC e.1 e.2 (tS e.1 (X, Y, Z)) c) := by
  have hk : ∀ k, k < 3 → 0 ≤ ci c k ∧ ci c k < ci (X, Y, Z) k := fun k hk => by
    obtain rfl | rfl | rfl : k = 0 ∨ k = 1 ∨ k = 2 := by omega
    · exact hc.1
    · exact hc.2.1
    · exact hc.2.2
  exact ⟨tK_in ht hk (by omega), tK_in ht hk (by omega), tK_in ht hk (by omega)⟩
theorem turn_nat {e : C × C} (ht : Turn e) : e.1.1 = (((ci e.1 0).toNat : Nat) : Int) ∧ e.1.2.1 = (((ci e.1 1).toNat : Nat) : Int) ∧ e.1.2.2 = (((ci e.1 2).toNat : Nat) : Int) ∧ (ci e.1 0).toNat < 3 ∧ (ci e.1 1).toNat < 3 ∧ (ci e.1 2).toNat < 3 := by
  have h0 := ht.o 0 (by omega)
  have h1 := ht.o 1 (by omega)
  have h2 := ht.o 2 (by omega)
  refine ⟨?_, ?_, ?_, by omega, by omega, by omega⟩
  · rw [Int.toNat_of_nonneg h0.1]; rfl
  · rw [Int.toNat_of_nonneg h1.1]; rfl
  · rw [Int.toNat_of_nonneg h2.1]; rfl
theorem tri_get1 {a c : C} {k : Nat} (hk : k < 3) : (tri a ++ tri c)[0 + 0 + k * 1]? = some (.int .i64 (ci a k)) := by
  obtain rfl | rfl | rfl : k = 0 ∨ k = 1 ∨ k = 2 := by omega
  all_goals rfl
theorem ci_tS (o S : C) {k : Nat} (hk : k < 3) : ci (tS o S) k = ci S (ci o k).toNat := by
  obtain rfl | rfl | rfl : k = 0 ∨ k = 1 ∨ k = 2 := by omega
  all_goals rfl
theorem flat6_at : ∀ {l : List (C × C)} {j : Nat}, j < l.length → 0 + j * 6 + 6 ≤ (flat6 l).length ∧ ((flat6 l).drop (0 + j * 6)).take 6 = tri (at6 l j).1 ++ tri (at6 l j).2
  | [], _, h => absurd h (by simp)
  | e :: l, 0, _ => ⟨by rw [flat6_length]; simp; omega, by simp [flat6, tri, at6]⟩
  | e :: l, j + 1, h => by
    have ih := flat6_at (l := l) (j := j) (by simpa using h)
    refine ⟨by rw [flat6_length]; simp at h ⊢; omega, ?_⟩
    have e1 : (flat6 (e :: l)).drop (0 + (j + 1) * 6) = (flat6 l).drop (0 + j * 6) := by
      rw [show 0 + (j + 1) * 6 = (0 + j * 6) + 6 by omega, show (0 + j * 6) + 6 = 6 + (0 + j * 6) by omega, ← List.drop_drop]; rfl
    rw [e1, ih.2]; rfl
theorem within_23 {j : Nat} (h : j < 24) : within (j : Int) 0 23 = true := by simp [within]; omega
theorem turn_nr {p : Int} (h : within p 0 23 = true) : ∃ j : Nat, p = j ∧ j < 24 := by
  simp [within] at h; exact ⟨p.toNat, by omega, by omega⟩
end Go.Sep
