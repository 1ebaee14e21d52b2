/- Shared texts of the proofs: Swit, Clus, Outs, Recs, Maps, Most, Top2. -/
import Derived.Test.YtkfhblkjllbejaaG2
/- Switches: four corners of a rectangle. -/
namespace Go.Sep
open Go
set_option linter.unusedVariables false
set_option linter.unusedSimpArgs false

section rules
variable {P : Program} {ts : Temps} {H : Heap} {n : Nat} {x y i : Operand} {t u e : TypeId}
def wadd (a b : Int) : Int := IntKind.i64.wrap (a + b)
theorem wadd_in {a b : Int} (h : inI (a + b)) : wadd a b = a + b := wrap_in h
theorem e_addW {a b : Int} (hx : ev ts x = some (.int .i64 a)) (hy : ev ts y = some (.int .i64 b)) : E P (.binOp .add t x y u) ts H n (.int .i64 (wadd a b)) H n :=
  e_bin hx hy (by simp only [cBin, cInt]; rfl)
theorem e_indexP {m : Nat} {l k : List Value} {q : IntKind} {j : Int} {sz by' : Nat} {z : List Value} {g : Bool} {d' : TD} {sz' by'' : Nat} {z' : List Value} {g' : Bool}
    (ht : ti P t = some ⟨.array m e, sz, by', z, g⟩) (hE : ti P e = some ⟨d', sz', by'', z', g'⟩) (hd : d'.agg = true) (hx : ev ts x = some (.agg (List.toArray l))) (hi : ev ts i = some (.int q j)) (hb : 0 ≤ j ∧ j < (m : Int))
    (hv : (l.drop (j.toNat * sz')).take sz' = k) : E P (.index t x i) ts H n (.agg (List.toArray k)) H n := by
  refine ⟨?_, rfl⟩
  simp only [cop, ev2, hx, hi, cIndex, ht, hE, cPart, hd, if_true]
  rw [if_pos hb, hv]; rfl
theorem e_sliceAHi {b o m : Nat} {sp : Option Nat} {ro : Bool} {cs : List Value} {q : IntKind} {j : Int} {sz by' : Nat} {z : List Value} {g : Bool} {d' : TD} {sz' by'' : Nat} {z' : List Value} {g' : Bool} (a : Nat)
    (ht : ti P t = some ⟨.array m e, sz, by', z, g⟩) (hE : ti P e = some ⟨d', sz', by'', z', g'⟩) (hx : ev ts x = some (.pointer (some ⟨b, o, sp⟩))) (hy : ev ts y = some (.int q j)) (hH : H b = some (.cells ro cs)) (hl : o + m * sz' ≤ cs.length)
    (hj : j = ((a + 1 : Nat) : Int)) (ha : a + 1 ≤ m) : E P (.slice t x none (some y) none) ts H n (.slice (some ⟨b, o, none⟩) (a + 1) sz') H n := by
  subst hj
  refine ⟨?_, rfl⟩
  simp only [cop, evO, hy, ev1, hx, cSlice, ht, hE, hH]
  rw [if_pos hl]
  simp only [cBounds]
  rw [if_pos ⟨by omega, by omega⟩]
  simp [withH]
theorem e_arrayAt {b o m k : Nat} {sp : Option Nat} {es : Nat} {sz by' : Nat} {z : List Value} {g : Bool}
    (ht : ti P t = some ⟨.array k e, sz, by', z, g⟩) (hx : ev ts x = some (.slice (some ⟨b, o, sp⟩) m es)) (hk : k ≤ m) : E P (.sliceToArrayPointer t x) ts H n (.pointer (some ⟨b, o, none⟩)) H n := by
  refine ⟨?_, rfl⟩
  simp only [cop, ev1, hx, cArrayAt, ht]
  rw [if_pos hk]; rfl
theorem and_2 {t : TypeId} {s : Nat} (h : s < 8) : cBin P .and t (.int .i64 (s : Int)) (.int .i64 2) = some (.int .i64 ((2 * (s / 2 % 2) : Nat) : Int)) := by
  obtain rfl | rfl | rfl | rfl | rfl | rfl | rfl | rfl : s = 0 ∨ s = 1 ∨ s = 2 ∨ s = 3 ∨ s = 4 ∨ s = 5 ∨ s = 6 ∨ s = 7 := by omega
  all_goals rfl
end rules

/-! ### Cells with one number changed -/
def putc (c : C) (p : Nat) (z : Int) : C := (if p = 0 then z else c.1, if p = 1 then z else c.2.1, if p = 2 then z else c.2.2)
theorem tri_put {c : C} {p : Nat} (hp : p < 3) (z : Int) : (tri c).set (0 + p * 1) (.int .i64 z) = tri (putc c p z) := by
  obtain rfl | rfl | rfl : p = 0 ∨ p = 1 ∨ p = 2 := by omega
  all_goals rfl
theorem tri_putL {a b c : Int} {p : Nat} (hp : p < 3) (z : Int) : [Value.int .i64 a, .int .i64 b, .int .i64 c].set (0 + p * 1) (.int .i64 z) = tri (putc (a, b, c) p z) := tri_put (c := (a, b, c)) hp z
theorem flat_put : ∀ {L : List C} {i p : Nat} {c : C}, i < L.length → p < 3 → ∀ z : Int, (flat (L.set i c)).set (0 + i * 3 + p * 1) (.int .i64 z) = flat (L.set i (putc c p z))
  | [], _, _, _, h, _, _ => absurd h (by simp)
  | d :: L, 0, p, c, _, hp, z => by
    obtain rfl | rfl | rfl : p = 0 ∨ p = 1 ∨ p = 2 := by omega
    all_goals rfl
  | d :: L, i + 1, p, c, h, hp, z => by
    have ih := flat_put (L := L) (i := i) (p := p) (c := c) (by simpa using h) hp z
    have e1 : 0 + (i + 1) * 3 + p * 1 = (0 + i * 3 + p * 1) + 3 := by omega
    simp only [List.set_cons_succ, flat, e1, List.set_cons_succ]
    rw [ih]
theorem flat_putget {L : List C} {i p : Nat} {c : C} (h : i < L.length) (hp : p < 3) : (flat (L.set i c))[0 + i * 3 + p * 1]? = some (.int .i64 (ci c p)) := by
  rw [flat_getJ (by simpa using h) hp]
  congr 2
  simp [at3, List.getD, h]

/-! ### Corners -/
def bmp (c : C) (p : Nat) (d : Int) : C := putc c p (wadd (ci c p) d)
def cor (c : C) (p q : Nat) (d e : Int) (j : Nat) : C :=
  if j / 2 % 2 = 1 then bmp (if j % 2 = 1 then bmp c p d else c) q e else if j % 2 = 1 then bmp c p d else c
def corN (c : C) (p q : Nat) (d e : Int) (i : Nat) : List C := (List.range 4).map fun j => if j < i then cor c p q d e j else (0, 0, 0)
theorem corN_len (c : C) (p q : Nat) (d e : Int) (i : Nat) : (corN c p q d e i).length = 4 := by simp [corN]
theorem corN_zero (c : C) (p q : Nat) (d e : Int) : flat (corN c p q d e 0) = [.int .i64 0, .int .i64 0, .int .i64 0, .int .i64 0, .int .i64 0, .int .i64 0, .int .i64 0, .int .i64 0, .int .i64 0, .int .i64 0, .int .i64 0, .int .i64 0] := by
  simp [corN, List.range, List.range.loop, flat]
theorem corN_succ {c : C} {p q : Nat} {d e : Int} {i : Nat} (h : i < 4) : (corN c p q d e i).set i (cor c p q d e i) = corN c p q d e (i + 1) := by
  obtain rfl | rfl | rfl | rfl : i = 0 ∨ i = 1 ∨ i = 2 ∨ i = 3 := by omega
  all_goals simp [corN, List.range, List.range.loop]
theorem corN_at {c : C} {p q : Nat} {d e : Int} {i : Nat} (h : i < 4) : at3 (corN c p q d e 4) i = cor c p q d e i := by
  obtain rfl | rfl | rfl | rfl : i = 0 ∨ i = 1 ∨ i = 2 ∨ i = 3 := by omega
  all_goals rfl
theorem corN_drop {c : C} {p q : Nat} {d e : Int} {i : Nat} (h : i < 4) : ((flat (corN c p q d e 4)).drop (((i : Nat) : Int).toNat * 3)).take 3 = tri (cor c p q d e i) := by
  have := (flat_at (cs := corN c p q d e 4) (k := i) (by rw [corN_len]; exact h)).2
  rw [corN_at h] at this
  rw [← this]; simp
theorem cor_TT {c : C} {p q : Nat} {d e : Int} {i : Nat} (h1 : ((i % 2 : Nat) : Int) = 1) (h2 : ((2 * (i / 2 % 2) : Nat) : Int) = 2) : putc (putc c p (wadd (ci c p) d)) q (wadd (ci (putc c p (wadd (ci c p) d)) q) e) = cor c p q d e i := by
  unfold cor; rw [if_pos (by omega), if_pos (by omega)]; rfl
theorem cor_TF {c : C} {p q : Nat} {d e : Int} {i : Nat} (h1 : ((i % 2 : Nat) : Int) = 1) (h2 : ¬ ((2 * (i / 2 % 2) : Nat) : Int) = 2) : putc c p (wadd (ci c p) d) = cor c p q d e i := by
  unfold cor; rw [if_neg (by omega), if_pos (by omega)]; rfl
theorem cor_FT {c : C} {p q : Nat} {d e : Int} {i : Nat} (h1 : ¬ ((i % 2 : Nat) : Int) = 1) (h2 : ((2 * (i / 2 % 2) : Nat) : Int) = 2) : putc c q (wadd (ci c q) e) = cor c p q d e i := by
  unfold cor; rw [if_pos (by omega), if_neg (by omega)]; rfl
theorem cor_FF {c : C} {p q : Nat} {d e : Int} {i : Nat} (h1 : ¬ ((i % 2 : Nat) : Int) = 1) (h2 : ¬ ((2 * (i / 2 % 2) : Nat) : Int) = 2) : c = cor c p q d e i := by
  unfold cor; rw [if_neg (by omega), if_neg (by omega)]
/-- Are five numbers those of a rectangle in the box? -/
def rectB (X Y Z : Int) (c : C) (p q : Nat) (d e : Int) : Bool := within d 1 4 && within e 1 4 && inBox X Y Z c && inBox X Y Z (cor c p q d e 3)
theorem ci_putc {c : C} {p k : Nat} {z : Int} (hp : p < 3) (hk : k < 3) : ci (putc c p z) k = if k = p then z else ci c k := by
  obtain rfl | rfl | rfl : p = 0 ∨ p = 1 ∨ p = 2 := by omega
  all_goals
    obtain rfl | rfl | rfl : k = 0 ∨ k = 1 ∨ k = 2 := by omega
    all_goals rfl
theorem in_ci {X Y Z : Int} {c : C} : In X Y Z c ↔ ∀ k, k < 3 → 0 ≤ ci c k ∧ ci c k < ci (X, Y, Z) k := by
  constructor
  · intro h k hk
    obtain rfl | rfl | rfl : k = 0 ∨ k = 1 ∨ k = 2 := by omega
    · exact h.1
    · exact h.2.1
    · exact h.2.2
  · intro h
    exact ⟨h 0 (by omega), h 1 (by omega), h 2 (by omega)⟩
structure Rect (X Y Z : Int) (c : C) (p q : Nat) (d e : Int) : Prop where
  db : 1 ≤ d ∧ d ≤ 4
  eb : 1 ≤ e ∧ e ≤ 4
  inn : ∀ j, j < 4 → In X Y Z (cor c p q d e j)
  apart : ∀ j k, j < 4 → k < 4 → j ≠ k → cor c p q d e j ≠ cor c p q d e k
theorem cor_ci {X Y Z : Int} {c : C} {p q : Nat} {d e : Int} (hp : p < 3) (hq : q < 3) (hpq : p ≠ q) (hX : Box X Y Z) (hc : In X Y Z c) (hd : 1 ≤ d ∧ d ≤ 4) (he : 1 ≤ e ∧ e ≤ 4) {j k : Nat} (hj : j < 4) (hk : k < 3) :
    ci (cor c p q d e j) k = ci c k + (if k = p then (if j % 2 = 1 then d else 0) else 0) + (if k = q then (if j / 2 % 2 = 1 then e else 0) else 0) := by
  have h1 := (in_ci.mp hc) k hk
  have h2 := ciS hX k
  have h1p := (in_ci.mp hc) p hp
  have h2p := ciS hX p
  have h1q := (in_ci.mp hc) q hq
  have h2q := ciS hX q
  have w1 : wadd (ci c p) d = ci c p + d := wadd_in (by unfold inI; omega)
  have w2 : wadd (ci c q) e = ci c q + e := wadd_in (by unfold inI; omega)
  have b1 : ci (bmp c p d) k = if k = p then ci c p + d else ci c k := by unfold bmp; rw [ci_putc hp hk, w1]
  have b1q : ci (bmp c p d) q = ci c q := by unfold bmp; rw [ci_putc hp hq, if_neg (fun h => hpq h.symm)]
  have b2 : ci (bmp c q e) k = if k = q then ci c q + e else ci c k := by unfold bmp; rw [ci_putc hq hk, w2]
  have b3 : ci (bmp (bmp c p d) q e) k = if k = q then ci c q + e else if k = p then ci c p + d else ci c k := by
    rw [show bmp (bmp c p d) q e = putc (bmp c p d) q (wadd (ci (bmp c p d) q) e) from rfl, ci_putc hq hk, b1q, w2, b1]
  unfold cor
  by_cases g1 : j / 2 % 2 = 1 <;> by_cases g2 : j % 2 = 1 <;> simp only [g1, g2, if_true, if_false]
  · rw [b3]
    by_cases e1 : k = p
    · subst e1; simp [hpq]
    · by_cases e2 : k = q
      · subst e2; simp [e1]
      · simp [e1, e2]
  · rw [b2]
    by_cases e2 : k = q
    · subst e2; simp
    · simp [e2]
  · rw [b1]
    by_cases e1 : k = p
    · subst e1; simp
    · simp [e1]
  · simp
theorem rect_of {X Y Z : Int} {c : C} {p q : Nat} {d e : Int} (hp : p < 3) (hq : q < 3) (hpq : p ≠ q) (hX : Box X Y Z) (h : rectB X Y Z c p q d e = true) : Rect X Y Z c p q d e := by
  simp only [rectB, Bool.and_eq_true] at h
  obtain ⟨⟨⟨h1, h2⟩, h3⟩, h4⟩ := h
  have hd : 1 ≤ d ∧ d ≤ 4 := by simpa [within] using h1
  have he : 1 ≤ e ∧ e ≤ 4 := by simpa [within] using h2
  have hc : In X Y Z c := inBox_bd h3
  have hf : In X Y Z (cor c p q d e 3) := inBox_bd h4
  have key := fun {j k : Nat} (hj : j < 4) (hk : k < 3) => cor_ci hp hq hpq hX hc hd he hj hk
  refine ⟨hd, he, fun j hj => in_ci.mpr fun k hk => ?_, fun j k hj hk hjk heq => ?_⟩
  · have a := (in_ci.mp hc) k hk
    have b := (in_ci.mp hf) k hk
    rw [key (by omega) hk] at b ⊢
    simp at b
    constructor <;> (repeat' split) <;> (repeat' split at b) <;> omega
  · have a := congrArg (fun c => ci c p) heq
    have b := congrArg (fun c => ci c q) heq
    simp only [key hj hp, key hk hp, if_true, hpq, if_false] at a
    simp only [key hj hq, key hk hq, if_true, (fun h => hpq h.symm : ¬ q = p), if_false] at b
    have a2 : (if j % 2 = 1 then d else 0) = (if k % 2 = 1 then d else 0) := by omega
    have b2 : (if j / 2 % 2 = 1 then e else 0) = (if k / 2 % 2 = 1 then e else 0) := by omega
    have a3 : j % 2 = k % 2 := by
      by_cases g1 : j % 2 = 1 <;> by_cases g2 : k % 2 = 1 <;> simp [g1, g2] at a2 <;> omega
    have b3 : j / 2 % 2 = k / 2 % 2 := by
      by_cases g1 : j / 2 % 2 = 1 <;> by_cases g2 : k / 2 % 2 = 1 <;> simp [g1, g2] at b2 <;> omega
    omega
/-- Is it a switch? -/
def cubB (cs : List C) (c : C) (p q : Nat) (d e : Int) (j : Nat) : Bool := decide (cor c p q d e j ∈ cs)
def swB (X Y Z : Int) (cs : List C) (c : C) (p q : Nat) (d e : Int) : Bool :=
  rectB X Y Z c p q d e && (cubB cs c p q d e 0 == cubB cs c p q d e 3 && cubB cs c p q d e 1 == cubB cs c p q d e 2 && cubB cs c p q d e 0 != cubB cs c p q d e 1)
/-- The cubes behind a switch. -/
def swS (Y Z : Int) (s : BitVec 64) (c : C) (p q : Nat) (d e : Int) : Nat → BitVec 64
  | 0 => s
  | i + 1 => swS Y Z s c p q d e i ^^^ (1#64 <<< cellIx Y Z (cor c p q d e i))
def swL (cs : List C) (c : C) (p q : Nat) (d e : Int) : Nat → List C
  | 0 => cs
  | i + 1 => if cor c p q d e i ∈ cs then without (swL cs c p q d e i) (cor c p q d e i) else withC (swL cs c p q d e i) (cor c p q d e i)
theorem sw_mem {X Y Z : Int} {cs : List C} {c : C} {p q : Nat} {d e : Int} (hv : Valid X Y Z cs) (hr : Rect X Y Z c p q d e) : ∀ i, i ≤ 4 → Valid X Y Z (swL cs c p q d e i) ∧ (∀ k, i ≤ k → k < 4 → (cor c p q d e k ∈ swL cs c p q d e i ↔ cor c p q d e k ∈ cs))
  | 0, _ => ⟨hv, fun k _ _ => Iff.rfl⟩
  | i + 1, hi => by
    obtain ⟨h1, h2⟩ := sw_mem hv hr i (by omega)
    have hw := withC_valid h1 (hr.inn i (by omega))
    by_cases hm : cor c p q d e i ∈ cs
    · simp only [swL, if_pos hm]
      refine ⟨without_valid h1 _, fun k hk hk4 => ?_⟩
      have := hr.apart k i hk4 (by omega) (by omega)
      rw [← h2 k (by omega) hk4]
      simp [without, this]
    · simp only [swL, if_neg hm]
      refine ⟨hw.1, fun k hk hk4 => ?_⟩
      have := hr.apart k i hk4 (by omega) (by omega)
      rw [hw.2]
      simp only [this, or_false]
      exact h2 k (by omega) hk4
theorem xor_rep {X Y Z : Int} {s : BitVec 64} {L : List C} (h : Rep X Y Z s L) {c : C} (hc : In X Y Z c) : s ^^^ (1#64 <<< cellIx Y Z c) = if c ∈ L then s &&& ~~~ (1#64 <<< cellIx Y Z c) else s ||| (1#64 <<< cellIx Y Z c) := by
  have hb := h.has hc
  have h64 := cellIx_lt64 h.valid.box hc
  have bit : ∀ j, j < 64 → (1#64 <<< cellIx Y Z c).getLsbD j = decide (j = cellIx Y Z c) := fun j hj => by
    simp only [BitVec.getLsbD_shiftLeft, hj, decide_true, Bool.true_and]
    by_cases g : j < cellIx Y Z c
    · simp [g]; omega
    · simp [g]; rw [show (j - cellIx Y Z c = 0) = (j = cellIx Y Z c) from propext (by omega)]
  by_cases hm : c ∈ L
  · rw [if_pos hm]
    rw [decide_eq_true hm] at hb
    apply BitVec.eq_of_getLsbD_eq
    intro j hj
    simp only [BitVec.getLsbD_xor, BitVec.getLsbD_and, BitVec.getLsbD_not, hj, decide_true, Bool.true_and]
    rw [bit j hj]
    by_cases e : j = cellIx Y Z c
    · subst e; simp [hb]
    · simp [e]
  · rw [if_neg hm]
    rw [decide_eq_false hm] at hb
    apply BitVec.eq_of_getLsbD_eq
    intro j hj
    simp only [BitVec.getLsbD_xor, BitVec.getLsbD_or]
    rw [bit j hj]
    by_cases e : j = cellIx Y Z c
    · subst e; simp [hb]
    · simp [e]
theorem sw_rep {X Y Z : Int} {s : BitVec 64} {cs : List C} {c : C} {p q : Nat} {d e : Int} (h : Rep X Y Z s cs) (hr : Rect X Y Z c p q d e) : ∀ i, i ≤ 4 → Rep X Y Z (swS Y Z s c p q d e i) (swL cs c p q d e i)
  | 0, _ => h
  | i + 1, hi => by
    have ih := sw_rep h hr i (by omega)
    have hm := (sw_mem h.valid hr i (by omega)).2 i (Nat.le_refl _) (by omega)
    have hin := hr.inn i (by omega)
    simp only [swS, swL]
    rw [xor_rep ih hin]
    by_cases g : cor c p q d e i ∈ cs
    · rw [if_pos g, if_pos (hm.mpr g)]; exact ih.without hin
    · rw [if_neg g, if_neg (fun k => g (hm.mp k))]; exact ih.withC hin
theorem swL_len {cs : List C} {c : C} {p q : Nat} {d e : Int} : ∀ i, (swL cs c p q d e i).length ≤ cs.length + i
  | 0 => Nat.le_refl _
  | i + 1 => by
    have ih := swL_len (cs := cs) (c := c) (p := p) (q := q) (d := d) (e := e) i
    simp only [swL]
    split
    · have := without_len (swL cs c p q d e i) (cor c p q d e i); omega
    · have := withC_len (swL cs c p q d e i) (cor c p q d e i); omega
theorem swL_T {cs : List C} {c : C} {p q : Nat} {d e : Int} {i : Nat} (h : cor c p q d e i ∈ cs) : without (swL cs c p q d e i) (cor c p q d e i) = swL cs c p q d e (i + 1) := by simp only [swL, if_pos h]
theorem swL_F {cs : List C} {c : C} {p q : Nat} {d e : Int} {i : Nat} (h : ¬ cor c p q d e i ∈ cs) : withC (swL cs c p q d e i) (cor c p q d e i) = swL cs c p q d e (i + 1) := by simp only [swL, if_neg h]

/-! ### The list of all switches -/
abbrev Sw := C × Nat × Nat
def z5 : List Sw → List Int
  | [] => []
  | e :: l => e.1.1 :: e.1.2.1 :: e.1.2.2 :: (e.2.1 : Int) :: (e.2.2 : Int) :: z5 l
theorem z5_length : ∀ l : List Sw, (z5 l).length = l.length * 5
  | [] => rfl
  | e :: l => by simp [z5, z5_length l]; omega
theorem z5_snoc : ∀ (l : List Sw) (e : Sw), ints (z5 l) ++ [.int .i64 e.1.1, .int .i64 e.1.2.1, .int .i64 e.1.2.2, .int .i64 (e.2.1 : Int), .int .i64 (e.2.2 : Int)] = ints (z5 (l ++ [e]))
  | [], e => rfl
  | d :: l, e => by
    have ih := z5_snoc l e
    simp only [z5, List.cons_append, ints, List.map_cons, List.map_append] at ih ⊢
    rw [ih]
def swN (X Y Z : Int) (cs : List C) (p q : Nat) (c : C) (i k : Nat) : List Sw := ((List.range k).filter fun (j : Nat) => swB X Y Z cs c p q (i : Int) (j : Int)).map fun j => (c, i, j)
def swI (X Y Z : Int) (cs : List C) (p q : Nat) (c : C) : Nat → List Sw
  | 0 => []
  | i + 1 => swI X Y Z cs p q c i ++ swN X Y Z cs p q c i 4
def swA (X Y Z : Int) (cs : List C) (p q : Nat) : Nat → List Sw
  | 0 => []
  | m + 1 => swA X Y Z cs p q m ++ swI X Y Z cs p q (at3 (allC X Y Z) m) 4
def sws (X Y Z : Int) (cs : List C) (p q : Nat) (m i k : Nat) : List Sw := swA X Y Z cs p q m ++ (swI X Y Z cs p q (at3 (allC X Y Z) m) i ++ swN X Y Z cs p q (at3 (allC X Y Z) m) i k)
def swAll (X Y Z : Int) (cs : List C) (p q : Nat) : List Sw := swA X Y Z cs p q (vol X Y Z)
variable {X Y Z : Int} {cs : List C} {p q : Nat}
theorem swB_0 {c : C} {d e : Int} (h : ¬ (1 ≤ d ∧ d ≤ 4) ∨ ¬ (1 ≤ e ∧ e ≤ 4)) : swB X Y Z cs c p q d e = false := by
  have : rectB X Y Z c p q d e = false := by
    unfold rectB
    rcases h with h | h
    · rw [show within d 1 4 = false from by simp [within]; omega]; rfl
    · rw [show within e 1 4 = false from by simp [within]; omega]; simp
  unfold swB; rw [this]; rfl
theorem swN_T {c : C} {i k : Nat} (h : swB X Y Z cs c p q (i : Int) (k : Int) = true) : swN X Y Z cs p q c i (k + 1) = swN X Y Z cs p q c i k ++ [(c, i, k)] := by
  unfold swN; rw [List.range_succ, List.filter_append]; simp [List.filter, h]
theorem swN_F {c : C} {i k : Nat} (h : swB X Y Z cs c p q (i : Int) (k : Int) = false) : swN X Y Z cs p q c i (k + 1) = swN X Y Z cs p q c i k := by
  unfold swN; rw [List.range_succ, List.filter_append]; simp [List.filter, h]
theorem swN_1 (c : C) (i : Nat) : swN X Y Z cs p q c i 1 = [] := by
  rw [swN_F (swB_0 (.inr (by simp)))]; rfl
theorem swN_len (c : C) (i k : Nat) : (swN X Y Z cs p q c i k).length ≤ k := by
  unfold swN; rw [List.length_map]; exact Nat.le_trans (List.length_filter_le _ _) (by simp)
theorem swI_len (c : C) : ∀ i, (swI X Y Z cs p q c i).length ≤ 4 * i
  | 0 => Nat.le_refl _
  | i + 1 => by have := swI_len c i; have := swN_len (X := X) (Y := Y) (Z := Z) (cs := cs) (p := p) (q := q) c i 4; simp only [swI, List.length_append]; omega
theorem swA_len : ∀ m, (swA X Y Z cs p q m).length ≤ 16 * m
  | 0 => Nat.le_refl _
  | m + 1 => by have := swA_len m; have := swI_len (X := X) (Y := Y) (Z := Z) (cs := cs) (p := p) (q := q) (at3 (allC X Y Z) m) 4; simp only [swA, List.length_append]; omega
theorem sws_len (m i k : Nat) : (sws X Y Z cs p q m i k).length ≤ 16 * m + 4 * i + k := by
  have h1 := swA_len (X := X) (Y := Y) (Z := Z) (cs := cs) (p := p) (q := q) m
  have h2 := swI_len (X := X) (Y := Y) (Z := Z) (cs := cs) (p := p) (q := q) (at3 (allC X Y Z) m) i
  have h3 := swN_len (X := X) (Y := Y) (Z := Z) (cs := cs) (p := p) (q := q) (at3 (allC X Y Z) m) i k
  simp only [sws, List.length_append]; omega
theorem sws_T {m i k : Nat} (h : swB X Y Z cs (at3 (allC X Y Z) m) p q (i : Int) (k : Int) = true) : sws X Y Z cs p q m i (k + 1) = sws X Y Z cs p q m i k ++ [(at3 (allC X Y Z) m, i, k)] := by
  unfold sws; rw [swN_T h]; simp
theorem sws_F {m i k : Nat} (h : swB X Y Z cs (at3 (allC X Y Z) m) p q (i : Int) (k : Int) = false) : sws X Y Z cs p q m i (k + 1) = sws X Y Z cs p q m i k := by
  unfold sws; rw [swN_F h]
theorem sws_start (m : Nat) : sws X Y Z cs p q m 1 1 = swA X Y Z cs p q m := by
  unfold sws; rw [swN_1]
  have : swI X Y Z cs p q (at3 (allC X Y Z) m) 1 = [] := by
    simp only [swI, List.nil_append]
    unfold swN
    rw [List.map_eq_nil_iff, List.filter_eq_nil_iff]
    intro j _
    rw [swB_0 (.inl (by simp))]; simp
  rw [this]; simp
theorem sws_k (m i : Nat) : sws X Y Z cs p q m i 4 = sws X Y Z cs p q m (i + 1) 1 := by
  unfold sws; rw [swN_1]; simp [swI]
theorem sws_i (m : Nat) : sws X Y Z cs p q m 4 1 = swA X Y Z cs p q (m + 1) := by
  unfold sws; rw [swN_1]; simp [swA]
theorem swB_far {c : C} {d e : Int} (hp : p < 3) (hq : q < 3) (hpq : p ≠ q) (hX : Box X Y Z) (h : ci (X, Y, Z) p ≤ d ∨ ci (X, Y, Z) q ≤ e) : swB X Y Z cs c p q d e = false := by
  cases hr : rectB X Y Z c p q d e with
  | false => unfold swB; rw [hr]; rfl
  | true =>
    exfalso
    have hR := rect_of hp hq hpq hX hr
    have hc0 : In X Y Z c := hR.inn 0 (by omega)
    have h3 := hR.inn 3 (by omega)
    have a := (in_ci.mp h3) p hp
    have b := (in_ci.mp h3) q hq
    have a0 := (in_ci.mp hc0) p hp
    have b0 := (in_ci.mp hc0) q hq
    rw [cor_ci hp hq hpq hX hc0 hR.db hR.eb (by omega) hp] at a
    rw [cor_ci hp hq hpq hX hc0 hR.db hR.eb (by omega) hq] at b
    simp [hpq] at a
    simp [(fun h => hpq h.symm : ¬ q = p)] at b
    omega
theorem sws_kend (hp : p < 3) (hq : q < 3) (hpq : p ≠ q) (hX : Box X Y Z) {m i k : Nat} (h1 : ci (X, Y, Z) q ≤ (k : Int)) (h2 : k ≤ 4) : sws X Y Z cs p q m i k = sws X Y Z cs p q m (i + 1) 1 := by
  rw [← sws_k]
  have : ∀ r, k + r ≤ 4 → sws X Y Z cs p q m i (k + r) = sws X Y Z cs p q m i k := by
    intro r
    induction r with
    | zero => intro _; rfl
    | succ r ih => intro hr; rw [show k + (r + 1) = (k + r) + 1 by omega, sws_F (swB_far hp hq hpq hX (.inr (by omega))), ih (by omega)]
  have := this (4 - k) (by omega)
  rw [show k + (4 - k) = 4 by omega] at this
  exact this.symm
theorem sws_iend (hp : p < 3) (hq : q < 3) (hpq : p ≠ q) (hX : Box X Y Z) {m i : Nat} (h1 : ci (X, Y, Z) p ≤ (i : Int)) (h2 : i ≤ 4) : sws X Y Z cs p q m i 1 = swA X Y Z cs p q (m + 1) := by
  rw [← sws_i]
  have : ∀ r, i + r ≤ 4 → sws X Y Z cs p q m (i + r) 1 = sws X Y Z cs p q m i 1 := by
    intro r
    induction r with
    | zero => intro _; rfl
    | succ r ih =>
      intro hr
      rw [show i + (r + 1) = (i + r) + 1 by omega, ← sws_k, ← ih (by omega)]
      have : ∀ k, k + 1 ≤ 4 → sws X Y Z cs p q m (i + r) (k + 1) = sws X Y Z cs p q m (i + r) 1 := by
        intro k
        induction k with
        | zero => intro _; rfl
        | succ k ih2 => intro hk; rw [sws_F (swB_far hp hq hpq hX (.inl (by omega))), ih2 (by omega)]
      exact this 3 (by omega)
  have := this (4 - i) (by omega)
  rw [show i + (4 - i) = 4 by omega] at this
  exact this.symm
def w5 (zs : List Int) (i : Nat) : List Int := (zs.drop (i * 5)).take 5
theorem w5_len {zs : List Int} {i m : Nat} (hl : zs.length = m * 5) (h : i < m) : (w5 zs i).length = 5 := by
  unfold w5; rw [List.length_take, List.length_drop]; omega
theorem ints_w5 {zs : List Int} {i m : Nat} (hl : zs.length = m * 5) (h : i < m) : 0 + i * 5 + 5 ≤ (ints zs).length ∧ ((ints zs).drop (0 + i * 5)).take 5 = ints (w5 zs i) := by
  refine ⟨by rw [ints_length]; omega, ?_⟩
  unfold w5 ints
  rw [Nat.zero_add, List.map_take, List.map_drop]
theorem markV_z5 (k : Int) (l : List Sw) : markV k (5 * l.length) (ints (z5 l)) = ints (upto k (5 * l.length)) := by
  have h := z5_length l
  rw [show 5 * l.length = (z5 l).length by omega, markV_ints]
theorem at1_take {zs : List Int} {i m : Nat} (h : i < m) : at1 (zs.take m) i = at1 zs i := by
  simp [at1, List.getD, List.getElem?_take, h]
theorem sw_rect {c : C} {d e : Int} (hp : p < 3) (hq : q < 3) (hpq : p ≠ q) (hX : Box X Y Z) (h : swB X Y Z cs c p q d e = true) : Rect X Y Z c p q d e := by
  unfold swB at h
  rw [Bool.and_eq_true] at h
  exact rect_of hp hq hpq hX h.1
theorem in4_list {c : C} {p q : Nat} {d e : Int} (h : In X Y Z (cor c p q d e 0)) (hX : Box X Y Z) : ([c.1, c.2.1, c.2.2].all fun z => within z 0 4) = true := by
  have h2 : In X Y Z c := h
  unfold In at h2
  unfold Box at hX
  simp [within]
  omega
theorem ints_ltT (n : Nat) (a : List Int) : ltT n (.agg (ints a).toArray) = true := by
  simp [ltT, ltV, ints, ltC, ltA]
end Go.Sep
/- Clusters: cubes that touch, with corners, too. -/
namespace Go.Sep
open Go
set_option linter.unusedVariables false
set_option linter.unusedSimpArgs false
/-- Two cells touch. -/
def touF (c e : C) : Bool := within (c.1 - e.1) (-1) 1 && within (c.2.1 - e.2.1) (-1) 1 && within (c.2.2 - e.2.2) (-1) 1
theorem tou_comm (c e : C) : touF c e = touF e c := by
  unfold touF within
  rw [Bool.eq_iff_iff]
  simp
  omega
theorem tou_no {c e : C} {k : Nat} (hk : k < 3) (h : within (ci c k - ci e k) (-1) 1 = false) : touF c e = false := by
  unfold touF
  obtain rfl | rfl | rfl : k = 0 ∨ k = 1 ∨ k = 2 := by omega
  · rw [show within (c.1 - e.1) (-1) 1 = false from h]; rfl
  · rw [show within (c.2.1 - e.2.1) (-1) 1 = false from h]; simp
  · rw [show within (c.2.2 - e.2.2) (-1) 1 = false from h]; simp
theorem tou_yes {c e : C} (h : ∀ k, k < 3 → within (ci c k - ci e k) (-1) 1 = true) : touF c e = true := by
  unfold touF
  rw [show within (c.1 - e.1) (-1) 1 = true from h 0 (by omega), show within (c.2.1 - e.2.1) (-1) 1 = true from h 1 (by omega), show within (c.2.2 - e.2.2) (-1) 1 = true from h 2 (by omega)]; rfl
namespace Clu
def adjF (c e : C) : Bool := touF e c
def adjR (c e : C) : Prop := adjF c e = true
theorem adjR_symm : ∀ a b, adjR a b → adjR b a := fun a b h => by unfold adjR adjF at *; rw [tou_comm]; exact h
/-- Cells of a row to which neighbours in it lead from some of its cells. -/
noncomputable def rchL (L B : List C) : List C := by
  classical exact L.filter fun c => decide (Rch adjR (fun x => x ∈ L) (fun x => x ∈ B) c)
open Classical in
theorem rchL_mem {L B : List C} {c : C} : c ∈ rchL L B ↔ Rch adjR (fun x => x ∈ L) (fun x => x ∈ B) c := by
  unfold rchL
  rw [List.mem_filter, decide_eq_true_eq]
  exact ⟨fun h => h.2, fun h => ⟨h.mem, h⟩⟩
theorem rchL_valid {X Y Z : Int} {L : List C} (h : Valid X Y Z L) (B : List C) : Valid X Y Z (rchL L B) := h.filter _

/-! ### The program's growth, round after round -/
def nxtN (X Y Z : Int) (s t : BitVec 64) (M : List C) : Nat → BitVec 64
  | 0 => s
  | i + 1 => nxtN X Y Z s t M i ||| (t &&& thoseTo Y Z (touF (at3 M i)) (vol X Y Z))
theorem nxt_rep {X Y Z : Int} {s t : BitVec 64} {M L : List C} (h : Rep X Y Z s M) (ht : Rep X Y Z t L) : ∀ i, i ≤ M.length → ∃ N, Rep X Y Z (nxtN X Y Z s t M i) N ∧ ∀ c, c ∈ N ↔ c ∈ M ∨ (c ∈ L ∧ ∃ j, j < i ∧ touF (at3 M j) c = true)
  | 0, _ => ⟨M, h, fun c => by simp⟩
  | i + 1, hi => by
    obtain ⟨N, h1, h2⟩ := nxt_rep h ht i (by omega)
    refine ⟨_, h1.union (ht.those_inter (touF (at3 M i))), fun c => ?_⟩
    simp only [List.mem_filter, Bool.or_eq_true, decide_eq_true_eq, h2]
    constructor
    · rintro ⟨_, (g | ⟨g1, j, g2, g3⟩) | ⟨g1, g2⟩⟩
      · exact .inl g
      · exact .inr ⟨g1, j, by omega, g3⟩
      · exact .inr ⟨g1, i, by omega, g2⟩
    · rintro (g | ⟨g1, j, g2, g3⟩)
      · exact ⟨(allC_mem h.valid.box).mpr (h.valid.inn c g), .inl (.inl g)⟩
      · refine ⟨(allC_mem h.valid.box).mpr (ht.valid.inn c g1), ?_⟩
        rcases Nat.lt_or_ge j i with e | e
        · exact .inl (.inr ⟨g1, j, e, g3⟩)
        · obtain rfl : j = i := by omega
          exact .inr ⟨g1, g3⟩
/-- A set in the making: it has the first cells, and only cells to which neighbours lead. -/
structure Grw (X Y Z : Int) (B L : List C) (s : BitVec 64) (M : List C) : Prop where
  rep : Rep X Y Z s M
  sub : ∀ c ∈ B, c ∈ M
  rch : ∀ c ∈ M, Rch adjR (fun x => x ∈ L) (fun x => x ∈ B) c
theorem Grw.start {X Y Z : Int} {B L : List C} {s : BitVec 64} (h : Rep X Y Z s B) (hB : ∀ c ∈ B, c ∈ L) : Grw X Y Z B L s B := ⟨h, fun c hc => hc, fun c hc => .base (hB c hc) hc⟩
theorem Grw.next {X Y Z : Int} {B L M : List C} {s t : BitVec 64} (h : Grw X Y Z B L s M) (ht : Rep X Y Z t L) : ∃ M', Grw X Y Z B L (nxtN X Y Z s t M M.length) M' ∧ (∀ c ∈ M, c ∈ M') ∧ (∀ c ∈ M, ∀ e ∈ L, adjR c e → e ∈ M') := by
  obtain ⟨N, h1, h2⟩ := nxt_rep h.rep ht M.length (Nat.le_refl _)
  refine ⟨N, ⟨h1, fun c hc => (h2 c).mpr (.inl (h.sub c hc)), fun c hc => ?_⟩, fun c hc => (h2 c).mpr (.inl hc), fun c hc e he ha => ?_⟩
  · rcases (h2 c).mp hc with g | ⟨g1, j, g2, g3⟩
    · exact h.rch c g
    · refine .step (h.rch _ (at3_mem g2)) ?_ g1
      show touF c (at3 M j) = true
      rw [tou_comm]; exact g3
  · obtain ⟨j, hj, e1⟩ := mem_at3 hc
    refine (h2 e).mpr (.inr ⟨he, j, hj, ?_⟩)
    rw [e1, tou_comm]; exact ha
theorem Grw.done {X Y Z : Int} {B L M : List C} {s t : BitVec 64} (h : Grw X Y Z B L s M) (ht : Rep X Y Z t L) (e : nxtN X Y Z s t M M.length = s) : Rep X Y Z s (rchL L B) := by
  obtain ⟨M', h1, h2, h3⟩ := h.next ht
  rw [e] at h1
  have e2 : M' = M := by rw [← h1.rep.cells, h.rep.cells]
  subst e2
  refine h.rep.congr (rchL_valid ht.valid B) fun c hc => ?_
  rw [rchL_mem]
  refine ⟨h.rch c, fun g => ?_⟩
  induction g with
  | base _ h5 => exact h.sub _ h5
  | step g1 g2 g3 ih => exact h3 _ (ih (ht.valid.inn _ g1.mem)) _ g3 g2
theorem Grw.grow {X Y Z : Int} {B L M : List C} {s t : BitVec 64} (h : Grw X Y Z B L s M) (ht : Rep X Y Z t L) (e : ¬ nxtN X Y Z s t M M.length = s) : ∃ M', Grw X Y Z B L (nxtN X Y Z s t M M.length) M' ∧ M.length < M'.length := by
  obtain ⟨M', h1, h2, _⟩ := h.next ht
  refine ⟨M', h1, ?_⟩
  have hle := h.rep.valid.len_sub h1.rep.valid h2
  rcases Nat.lt_or_ge M.length M'.length with g | g
  · exact g
  · exact absurd (by
      have := h.rep.valid.eq_len h1.rep.valid h2 g
      subst this
      exact h1.rep.eq h.rep) e

/-! ### The reference's search, cell after cell -/
/-- `q`: the cells found, in the order in which they were found; the first `n` of them have been asked, the neighbours `k` of the next one, too; `M`: what is left; `P`: the first `n` in order. -/
structure Srch (X Y Z : Int) (L : List C) (c0 : C) (q M P : List C) (n : Nat) : Prop where
  vM : Valid X Y Z M
  vP : Valid X Y Z P
  qL : ∀ c ∈ q, c ∈ L
  left : ∀ c, c ∈ M ↔ c ∈ L ∧ c ∉ q
  part : ∀ c, c ∈ P ↔ ∃ j, j < n ∧ j < q.length ∧ at3 q j = c
  rch : ∀ c ∈ q, Rch adjR (fun x => x ∈ L) (fun x => x = c0) c
  cls : ∀ j, j < n → j < q.length → ∀ e ∈ L, adjR (at3 q j) e → e ∈ q
  seed : c0 ∈ q
  nodup : q.Nodup
theorem Srch.start {X Y Z : Int} {L : List C} (h : Valid X Y Z L) (hne : 0 < L.length) : Srch X Y Z L (at3 L 0) [at3 L 0] (without L (at3 L 0)) [] 0 := by
  have hm := at3_mem hne
  refine ⟨without_valid h _, valid_nil h.box, fun c hc => by simp at hc; rw [hc]; exact hm, fun c => ?_, fun c => by simp, fun c hc => by simp at hc; rw [hc]; exact .base hm rfl, fun j hj => absurd hj (by omega), by simp, by simp⟩
  simp only [without, List.mem_filter, List.mem_singleton, Bool.not_eq_true', decide_eq_false_iff_not]
/-- The cell `n` is put to the part. -/
theorem Srch.put {X Y Z : Int} {L : List C} {c0 : C} {q M P : List C} {n : Nat} (h : Srch X Y Z L c0 q M P n) (hL : Valid X Y Z L) (hn : n < q.length) :
    Valid X Y Z (withC P (at3 q n)) ∧ ∀ c, c ∈ withC P (at3 q n) ↔ ∃ j, j < n + 1 ∧ j < q.length ∧ at3 q j = c := by
  obtain ⟨h1, h2⟩ := withC_valid h.vP (hL.inn _ (h.qL _ (at3_mem hn)))
  refine ⟨h1, fun c => ?_⟩
  rw [h2, h.part]
  constructor
  · rintro (⟨j, g1, g2, g3⟩ | g)
    · exact ⟨j, by omega, g2, g3⟩
    · exact ⟨n, by omega, hn, g.symm⟩
  · rintro ⟨j, g1, g2, g3⟩
    rcases Nat.lt_or_ge j n with g | g
    · exact .inl ⟨j, g, g2, g3⟩
    · obtain rfl : j = n := by omega
      exact .inr g3.symm
/-- The cells that are left, one after the other. -/
structure Srch2 (X Y Z : Int) (L : List C) (c0 : C) (q M P : List C) (n i : Nat) (q' M' : List C) : Prop where
  vM : Valid X Y Z M'
  eq : q' = q ++ (M.take i).filter (adjF (at3 q n))
  left : ∀ c, c ∈ M' ↔ c ∈ L ∧ c ∉ q'
  nodup : q'.Nodup
theorem Srch2.start {X Y Z : Int} {L : List C} {c0 : C} {q M P : List C} {n : Nat} (h : Srch X Y Z L c0 q M P n) : Srch2 X Y Z L c0 q M P n 0 q M := ⟨h.vM, by simp, h.left, h.nodup⟩
theorem Srch2.next_F {X Y Z : Int} {L : List C} {c0 : C} {q M P : List C} {n : Nat} {i : Nat} {q' M' : List C} (k : Srch2 X Y Z L c0 q M P n i q' M') (hi : i < M.length) (hf : touF (at3 M i) (at3 q n) = false) :
    Srch2 X Y Z L c0 q M P n (i + 1) q' M' := by
  refine ⟨k.vM, ?_, k.left, k.nodup⟩
  rw [k.eq, take_succ3 hi, List.filter_append, show [at3 M i].filter (adjF (at3 q n)) = [] from by simp only [List.filter, show adjF (at3 q n) (at3 M i) = false from hf], List.append_nil]
theorem Srch2.next_T {X Y Z : Int} {L : List C} {c0 : C} {q M P : List C} {n : Nat} {i : Nat} {q' M' : List C} (h : Srch X Y Z L c0 q M P n) (k : Srch2 X Y Z L c0 q M P n i q' M') (hi : i < M.length) (hf : touF (at3 M i) (at3 q n) = true) :
    Srch2 X Y Z L c0 q M P n (i + 1) (q' ++ [at3 M i]) (without M' (at3 M i)) := by
  have hM := at3_mem hi
  have hN : M.Nodup := (h.vM.rise.imp (fun {a b} hab => (by intro e; subst e; exact Nat.lt_irrefl _ hab) : ∀ {a b : Nat}, a < b → a ≠ b) |> fun x => by
    have := List.pairwise_map.mp x
    exact this.imp fun {a b} hab e => hab (by rw [e]))
  have hnq : at3 M i ∉ q' := by
    rw [k.eq]
    intro g
    rcases List.mem_append.mp g with g | g
    · exact ((h.left _).mp hM).2 g
    · have g := (List.mem_filter.mp g).1
      obtain ⟨j, hj, e⟩ := List.getElem_of_mem g
      rw [List.getElem_take] at e
      have hj' : j < i := by simp at hj; omega
      rw [at3_get hi] at e
      have hjl : j < M.length := by omega
      exact List.pairwise_iff_getElem.mp hN j i hjl hi hj' e
  refine ⟨without_valid k.vM _, ?_, fun c => ?_, ?_⟩
  · rw [k.eq, take_succ3 hi, List.filter_append, show [at3 M i].filter (adjF (at3 q n)) = [at3 M i] from by simp only [List.filter, show adjF (at3 q n) (at3 M i) = true from hf], List.append_assoc]
  · simp only [without, List.mem_filter, k.left, List.mem_append, List.mem_singleton, Bool.not_eq_true', decide_eq_false_iff_not, not_or, and_assoc]
  · rw [List.nodup_append]
    refine ⟨k.nodup, by simp, fun a ha b hb => ?_⟩
    simp at hb; subst hb
    intro e; subst e; exact hnq ha
theorem Srch2.done {X Y Z : Int} {L : List C} {c0 : C} {q M P : List C} {n : Nat} {i : Nat} {q' M' : List C} (h : Srch X Y Z L c0 q M P n) (hL : Valid X Y Z L) (hn : n < q.length) (k : Srch2 X Y Z L c0 q M P n i q' M') (hi : i = M.length) :
    Srch X Y Z L c0 q' M' (withC P (at3 q n)) (n + 1) := by
  subst hi
  have eq := k.eq
  rw [List.take_length] at eq
  obtain ⟨p1, p2⟩ := h.put hL hn
  have hat : ∀ j, j < q.length → at3 q' j = at3 q j := fun j hj => by rw [eq]; exact at3_app_l hj
  have hlen : q.length ≤ q'.length := by rw [eq]; simp
  have hN : ∀ c ∈ M.filter (adjF (at3 q n)), c ∈ L ∧ adjR (at3 q n) c := fun c hc => ⟨((h.left c).mp (List.mem_filter.mp hc).1).1, (List.mem_filter.mp hc).2⟩
  refine ⟨k.vM, p1, fun c hc => ?_, k.left, fun c => ?_, fun c hc => ?_, fun j hj hjl e he ha => ?_, by rw [eq]; exact List.mem_append_left _ h.seed, k.nodup⟩
  · rw [eq] at hc
    rcases List.mem_append.mp hc with g | g
    · exact h.qL c g
    · exact (hN c g).1
  · rw [p2]
    constructor
    · rintro ⟨j, g1, g2, g3⟩; exact ⟨j, g1, by omega, by rw [hat j g2]; exact g3⟩
    · rintro ⟨j, g1, g2, g3⟩; exact ⟨j, g1, by omega, by rw [← hat j (by omega)]; exact g3⟩
  · rw [eq] at hc
    rcases List.mem_append.mp hc with g | g
    · exact h.rch c g
    · exact .step (h.rch _ (at3_mem hn)) (hN c g).2 (hN c g).1
  · rw [hat j (by omega)] at ha
    rw [eq]
    rcases Nat.lt_or_ge j n with g | g
    · exact List.mem_append_left _ (h.cls j g (by omega) e he ha)
    · obtain rfl : j = n := by omega
      by_cases hq : e ∈ q
      · exact List.mem_append_left _ hq
      · exact List.mem_append_right _ (List.mem_filter.mpr ⟨(h.left e).mpr ⟨he, hq⟩, ha⟩)
theorem Srch.all {X Y Z : Int} {L : List C} {c0 : C} {q M P : List C} {n : Nat} (h : Srch X Y Z L c0 q M P n) (hL : Valid X Y Z L) (hn : n = q.length) : P = rchL L [c0] ∧ M = L.filter fun c => !decide (c ∈ rchL L [c0]) := by
  subst hn
  have key : ∀ c, c ∈ q ↔ c ∈ rchL L [c0] := fun c => by
    rw [rchL_mem]
    constructor
    · intro g; exact (h.rch c g).mono fun x hx => by rw [hx]; simp
    · intro g
      induction g with
      | base _ h5 => simp at h5; rw [h5]; exact h.seed
      | step g1 g2 g3 ih =>
        obtain ⟨j, hj, e⟩ := mem_at3 ih
        exact h.cls j hj hj _ g3 (by rw [e]; exact g2)
  constructor
  · refine h.vP.ext (rchL_valid hL _) fun c hc => ?_
    rw [h.part, ← key]
    constructor
    · rintro ⟨j, _, g2, g3⟩; rw [← g3]; exact at3_mem g2
    · intro g; obtain ⟨j, hj, e⟩ := mem_at3 g; exact ⟨j, hj, hj, e⟩
  · refine h.vM.ext (hL.filter _) fun c hc => ?_
    rw [h.left, List.mem_filter]
    simp [key]
theorem Srch.q_len {X Y Z : Int} {L : List C} {c0 : C} {q M P : List C} {n : Nat} (h : Srch X Y Z L c0 q M P n) (hL : Valid X Y Z L) : q.length ≤ L.length := by
  exact nodup_len h.nodup h.qL
theorem Srch2.q_len {X Y Z : Int} {L : List C} {c0 : C} {q M P : List C} {n : Nat} {i : Nat} {q' M' : List C} (h : Srch X Y Z L c0 q M P n) (k : Srch2 X Y Z L c0 q M P n i q' M') : q'.length ≤ L.length := by
  refine nodup_len k.nodup fun c hc => ?_
  rw [k.eq] at hc
  rcases List.mem_append.mp hc with g | g
  · exact h.qL c g
  · exact ((h.left c).mp (List.mem_of_mem_take (List.mem_filter.mp g).1)).1
/-! ### All clusters -/
noncomputable def restL (L : List C) : List C := L.filter fun c => !decide (c ∈ rchL L [at3 L 0])
noncomputable def leftN (L : List C) : Nat → List C
  | 0 => L
  | k + 1 => restL (leftN L k)
noncomputable def partN (L : List C) (k : Nat) : List C := rchL (leftN L k) [at3 (leftN L k) 0]
noncomputable def partsK (L : List C) (k : Nat) : List (List C) := (List.range k).map (partN L)
noncomputable def partsF : Nat → List C → List (List C)
  | 0, _ => []
  | f + 1, L => if L = [] then [] else rchL L [at3 L 0] :: partsF f (restL L)
noncomputable def partsL (L : List C) : List (List C) := partsF L.length L
theorem restL_valid {X Y Z : Int} {L : List C} (h : Valid X Y Z L) : Valid X Y Z (restL L) := h.filter _
theorem leftN_valid {X Y Z : Int} {L : List C} (h : Valid X Y Z L) : ∀ k, Valid X Y Z (leftN L k)
  | 0 => h
  | k + 1 => restL_valid (leftN_valid h k)
theorem partN_valid {X Y Z : Int} {L : List C} (h : Valid X Y Z L) (k : Nat) : Valid X Y Z (partN L k) := rchL_valid (leftN_valid h k) _
theorem head_rch {L : List C} (h : 0 < L.length) : at3 L 0 ∈ rchL L [at3 L 0] := rchL_mem.mpr (.base (at3_mem h) (by simp))
theorem restL_len {L : List C} (h : 0 < L.length) : (restL L).length < L.length := by
  unfold restL
  exact List.length_filter_lt_length_iff_exists.mpr ⟨_, at3_mem h, by rw [decide_eq_true (head_rch h)]; decide⟩
theorem leftN_len {L : List C} : ∀ k, (∀ j, j < k → 0 < (leftN L j).length) → (leftN L k).length + k ≤ L.length
  | 0, _ => by simp [leftN]
  | k + 1, h => by
    have ih := leftN_len k fun j hj => h j (by omega)
    have := restL_len (h k (by omega))
    simp only [leftN]; omega
theorem leftN_shift (L : List C) : ∀ k, leftN L (k + 1) = leftN (restL L) k
  | 0 => rfl
  | k + 1 => by simp only [leftN]; rw [← leftN_shift L k]; rfl
theorem partN_shift (L : List C) (k : Nat) : partN L (k + 1) = partN (restL L) k := by unfold partN; rw [leftN_shift]
theorem partsK_succ (L : List C) (k : Nat) : partsK L (k + 1) = partsK L k ++ [partN L k] := by simp [partsK, List.range_succ]
theorem parts_end : ∀ (k f : Nat) (L : List C), k ≤ f → (leftN L k).length = 0 → (∀ j, j < k → 0 < (leftN L j).length) → partsF f L = partsK L k
  | 0, f, L, _, h0, _ => by
    have : L = [] := List.eq_nil_of_length_eq_zero h0
    subst this
    cases f with
    | zero => rfl
    | succ f => simp [partsF, partsK]
  | k + 1, f, L, hf, h0, hj => by
    obtain ⟨f, rfl⟩ : ∃ g, f = g + 1 := ⟨f - 1, by omega⟩
    have hne : L ≠ [] := fun e => by have := hj 0 (by omega); subst e; simp [leftN] at this
    have ih := parts_end k f (restL L) (by omega) (by rw [← leftN_shift]; exact h0) fun j hjk => by rw [← leftN_shift]; exact hj (j + 1) (by omega)
    simp only [partsF]
    rw [if_neg hne, ih]
    unfold partsK
    rw [List.range_succ_eq_map, List.map_cons, List.map_map]
    congr 1
    refine List.map_congr_left fun j _ => ?_
    simp only [Function.comp, Nat.succ_eq_add_one]
    exact (partN_shift L j).symm
theorem partsL_end {L : List C} {k : Nat} (h0 : (leftN L k).length = 0) (hj : ∀ j, j < k → 0 < (leftN L j).length) : partsL L = partsK L k :=
  parts_end k _ L (by have := leftN_len k hj; omega) h0 hj
theorem parts_ex : ∀ (m : Nat) (L : List C), L.length ≤ m → ∃ k, (leftN L k).length = 0 ∧ ∀ j, j < k → 0 < (leftN L j).length
  | 0, L, h => ⟨0, by simp only [leftN]; omega, fun j hj => absurd hj (by omega)⟩
  | m + 1, L, h => by
    rcases Nat.eq_zero_or_pos L.length with e | e
    · exact ⟨0, by simp only [leftN]; omega, fun j hj => absurd hj (by omega)⟩
    · obtain ⟨k, h1, h2⟩ := parts_ex m (restL L) (by have := restL_len e; omega)
      refine ⟨k + 1, by rw [leftN_shift]; exact h1, fun j hj => ?_⟩
      cases j with
      | zero => exact e
      | succ j => rw [leftN_shift]; exact h2 j (by omega)
/-- How many parts there are. -/
noncomputable def prtN (L : List C) : Nat := (partsL L).length
theorem prtN_end {L : List C} {k : Nat} (h0 : (leftN L k).length = 0) (hj : ∀ j, j < k → 0 < (leftN L j).length) : prtN L = k := by
  unfold prtN; rw [partsL_end h0 hj]; simp [partsK]
theorem prtN_left (L : List C) : (leftN L (prtN L)).length = 0 ∧ ∀ j, j < prtN L → 0 < (leftN L j).length := by
  obtain ⟨k, h1, h2⟩ := parts_ex _ L (Nat.le_refl _)
  rw [prtN_end h1 h2]; exact ⟨h1, h2⟩
theorem prtN_le (L : List C) : prtN L ≤ L.length := by
  have := leftN_len (prtN L) (prtN_left L).2; omega
theorem parts_row {L : List C} {k : Nat} (h : k < prtN L) : (partN L k).length ≤ L.length := by
  have h1 : (partN L k).length ≤ (leftN L k).length := by unfold partN rchL; exact List.length_filter_le _ _
  have h2 := leftN_len k fun j hj => (prtN_left L).2 j (by omega)
  omega
theorem left_mask {X Y Z : Int} {L : List C} (hv : Valid X Y Z L) (k : Nat) : mask Y Z (leftN L k) &&& ~~~ mask Y Z (partN L k) = mask Y Z (leftN L (k + 1)) := by
  have h := (rep_mask (leftN_valid hv k)).diff (rep_mask (partN_valid hv k))
  exact h.toMask
end Clu
end Go.Sep
/- Cells that are outside, cells that are enclosed. -/
namespace Go.Sep
open Go
set_option linter.unusedVariables false
set_option linter.unusedSimpArgs false

variable {X Y Z : Int}
/-! ### The rim -/
def rimF (X Y Z : Int) (c : C) : Bool := decide (((popU (nearS X Y Z c) : Nat) : Int) < 6)
theorem nbr_inj {c : C} {m k : Nat} (hm : m < 6) (hk : k < 6) (h : nbr c m = nbr c k) : m = k := by
  obtain rfl | rfl | rfl | rfl | rfl | rfl : m = 0 ∨ m = 1 ∨ m = 2 ∨ m = 3 ∨ m = 4 ∨ m = 5 := by omega
  all_goals
    obtain rfl | rfl | rfl | rfl | rfl | rfl : k = 0 ∨ k = 1 ∨ k = 2 ∨ k = 3 ∨ k = 4 ∨ k = 5 := by omega
    all_goals first
      | rfl
      | (exfalso; simp [nbr, movC, addC, sgn] at h; try omega)
theorem nbr_back (c : C) {m : Nat} (hm : m < 6) : ∃ k, k < 6 ∧ nbr (nbr c m) k = c := by
  have h := (apart_nbr (nbr c m) c).mpr ⟨m, hm, rfl⟩
  rw [apart_comm] at h
  exact (apart_nbr c (nbr c m)).mp h
theorem adj_nbr {c e : C} : adjR c e ↔ ∃ m, m < 6 ∧ nbr c m = e := apart_nbr e c
theorem valid_nodup {L : List C} (h : Valid X Y Z L) : L.Nodup := by
  have := List.pairwise_map.mp (h.rise.imp (fun {a b} hab => (by intro e; subst e; exact Nat.lt_irrefl _ hab) : ∀ {a b : Nat}, a < b → a ≠ b))
  exact this.imp fun {a b} hab e => hab (by rw [e])
theorem rim_iff (hX : Box X Y Z) {c : C} : rimF X Y Z c = true ↔ ∃ m, m < 6 ∧ ¬ In X Y Z (nbr c m) := by
  unfold rimF
  rw [decide_eq_true_eq, (rep_near hX c).pop]
  have hnd : ((List.range 6).map (nbr c)).Nodup := by
    rw [List.nodup_iff_pairwise_ne, List.pairwise_map]
    refine List.Pairwise.imp_of_mem (fun {a b} ha hb hab h => ?_) List.nodup_range
    exact hab (nbr_inj (List.mem_range.mp ha) (List.mem_range.mp hb) h)
  have hmem : ∀ e, e ∈ (allC X Y Z).filter (adjF c) ↔ In X Y Z e ∧ ∃ m, m < 6 ∧ nbr c m = e := fun e => by
    rw [List.mem_filter, allC_mem hX, adjF, decide_eq_true_eq, apart_nbr]
  constructor
  · intro h
    refine Classical.byContradiction fun hn => ?_
    have hall : ∀ m, m < 6 → In X Y Z (nbr c m) := fun m hm => Classical.byContradiction fun g => hn ⟨m, hm, g⟩
    have := nodup_len (b := (allC X Y Z).filter (adjF c)) hnd fun x hx => by
      obtain ⟨m, hm, rfl⟩ := List.mem_map.mp hx
      exact (hmem _).mpr ⟨hall m (List.mem_range.mp hm), m, List.mem_range.mp hm, rfl⟩
    simp at this
    omega
  · rintro ⟨m, hm, hout⟩
    have h1 := nodup_len (b := ((List.range 6).map (nbr c)).erase (nbr c m)) (valid_nodup ((allC_valid hX).filter (adjF c))) fun x hx => by
      obtain ⟨hin, k, hk, rfl⟩ := (hmem x).mp hx
      refine (List.mem_erase_of_ne (fun e => hout (by rw [← e]; exact hin))).mpr (List.mem_map.mpr ⟨k, List.mem_range.mpr hk, rfl⟩)
    rw [List.length_erase_of_mem (List.mem_map.mpr ⟨m, List.mem_range.mpr hm, rfl⟩)] at h1
    simp at h1
    omega
/-! ### Enclosed cells -/
noncomputable def outL (X Y Z : Int) (cs : List C) : List C := rchL (freeL X Y Z cs) ((freeL X Y Z cs).filter (rimF X Y Z))
noncomputable def encL (X Y Z : Int) (cs : List C) : List C := (freeL X Y Z cs).filter fun c => !decide (c ∈ outL X Y Z cs)
theorem free_valid (hX : Box X Y Z) (cs : List C) : Valid X Y Z (freeL X Y Z cs) := (allC_valid hX).filter _
theorem enc_valid (hX : Box X Y Z) (cs : List C) : Valid X Y Z (encL X Y Z cs) := (free_valid hX cs).filter _
theorem free_mem (hX : Box X Y Z) {cs : List C} {c : C} : c ∈ freeL X Y Z cs ↔ In X Y Z c ∧ ¬ c ∈ cs := by
  unfold freeL; rw [List.mem_filter, allC_mem hX]; simp
theorem enc_mask {cs : List C} (hv : Valid X Y Z cs) : (((1#64 : BitVec 64) <<< vol X Y Z - 1#64) &&& ~~~ mask Y Z cs) &&& ~~~ mask Y Z (outL X Y Z cs) = mask Y Z (encL X Y Z cs) :=
  ((rep_free hv).diff (rep_mask (rchL_valid (free_valid hv.box cs) _))).toMask
/-- Bare faces beyond which it is outside. -/
def faceF (cs E : List C) (c : C) (m : Nat) : Bool := !decide (nbr c m ∈ cs) && !decide (nbr c m ∈ E)
theorem face_F1 {cs E : List C} {c : C} {m : Nat} (h : nbr c m ∈ cs) : faceF cs E c m = false := by simp [faceF, h]
theorem face_F2 {cs E : List C} {c : C} {m : Nat} (h : nbr c m ∈ E) : faceF cs E c m = false := by simp [faceF, h]
theorem face_T {cs E : List C} {c : C} {m : Nat} (h : ¬ nbr c m ∈ cs) (h2 : ¬ nbr c m ∈ E) : faceF cs E c m = true := by simp [faceF, h, h2]
theorem face_T1 {cs E : List C} {c : C} {m : Nat} (hE : Valid X Y Z E) (h : ¬ nbr c m ∈ cs) (h2 : inBox X Y Z (nbr c m) = false) : faceF cs E c m = true :=
  face_T h fun g => by rw [inBox_of (hE.inn _ g)] at h2; simp at h2
def faceN (cs E : List C) : Nat → Int
  | 0 => 0
  | i + 1 => faceN cs E i + cntF (faceF cs E (at3 cs i)) 6
theorem faceN_bd (cs E : List C) : ∀ i : Nat, 0 ≤ faceN cs E i ∧ faceN cs E i ≤ 6 * (i : Int)
  | 0 => by simp [faceN]
  | i + 1 => by have := faceN_bd cs E i; have := cnt_bd (faceF cs E (at3 cs i)) 6; simp only [faceN]; omega
/-! ### The reference's margin -/
def MgP (X Y Z : Int) (x y z : Nat) (c : C) : Prop := ((-1 ≤ c.1 ∧ c.1 ≤ X) ∧ (-1 ≤ c.2.1 ∧ c.2.1 ≤ Y) ∧ (-1 ≤ c.2.2 ∧ c.2.2 ≤ Z)) ∧ ¬ In X Y Z c ∧ (c.1 + 1 < (x : Int) ∨ c.1 + 1 = (x : Int) ∧ (c.2.1 + 1 < (y : Int) ∨ c.2.1 + 1 = (y : Int) ∧ c.2.2 + 1 < (z : Int)))
structure Mg (X Y Z : Int) (L : List C) (x y z : Nat) : Prop where
  mem : ∀ c, c ∈ L ↔ MgP X Y Z x y z c
  len : L.length ≤ x * 36 + y * 6 + z
theorem Mg.start : Mg X Y Z [] 0 0 0 := ⟨fun c => by
  simp only [List.not_mem_nil, false_iff]
  unfold MgP
  omega, by simp⟩
def mgC (x y z : Nat) : C := ((x : Int) - 1, (y : Int) - 1, (z : Int) - 1)
theorem Mg.T {L : List C} {x y z : Nat} (h : Mg X Y Z L x y z) (hb : ((x : Int) ≤ X + 1 ∧ (y : Int) ≤ Y + 1) ∧ (z : Int) ≤ Z + 1) (hi : inBox X Y Z (mgC x y z) = false) : Mg X Y Z (L ++ [mgC x y z]) x y (z + 1) := by
  refine ⟨fun c => ?_, by have := h.len; simp; omega⟩
  rw [List.mem_append, List.mem_singleton, h.mem]
  constructor
  · rintro (g | rfl)
    · unfold MgP at *; omega
    · refine ⟨?_, fun g => by rw [inBox_of g] at hi; simp at hi, ?_⟩ <;> simp only [mgC] <;> omega
  · rintro ⟨h1, h2, h3⟩
    by_cases e : c = mgC x y z
    · exact .inr e
    · refine .inl ⟨h1, h2, ?_⟩
      obtain ⟨c1, c2, c3⟩ := c
      simp only [mgC, Prod.mk.injEq] at e h3 ⊢
      omega
theorem Mg.F {L : List C} {x y z : Nat} (h : Mg X Y Z L x y z) (hi : inBox X Y Z (mgC x y z) = true) : Mg X Y Z L x y (z + 1) := by
  refine ⟨fun c => ?_, by have := h.len; omega⟩
  rw [h.mem]
  have hin := inBox_bd hi
  constructor
  · intro g; unfold MgP at *; omega
  · rintro ⟨h1, h2, h3⟩
    refine ⟨h1, h2, ?_⟩
    have e : c ≠ mgC x y z := fun e => h2 (e ▸ hin)
    obtain ⟨c1, c2, c3⟩ := c
    simp only [mgC, ne_eq, Prod.mk.injEq] at e h3 ⊢
    omega
theorem Mg.y {L : List C} {x y z : Nat} (hX : Box X Y Z) (h : Mg X Y Z L x y z) (hz : (z : Int) = Z + 2) : Mg X Y Z L x (y + 1) 0 := by
  unfold Box at hX
  refine ⟨fun c => ?_, by have := h.len; omega⟩
  rw [h.mem]
  unfold MgP
  constructor
  · rintro ⟨h1, h2, h3⟩; exact ⟨h1, h2, by omega⟩
  · rintro ⟨h1, h2, h3⟩; exact ⟨h1, h2, by omega⟩
theorem Mg.x {L : List C} {x y : Nat} (hX : Box X Y Z) (h : Mg X Y Z L x y 0) (hy : (y : Int) = Y + 2) : Mg X Y Z L (x + 1) 0 0 := by
  unfold Box at hX
  refine ⟨fun c => ?_, by have := h.len; omega⟩
  rw [h.mem]
  unfold MgP
  constructor
  · rintro ⟨h1, h2, h3⟩; exact ⟨h1, h2, by omega⟩
  · rintro ⟨h1, h2, h3⟩; exact ⟨h1, h2, by omega⟩
structure Mgn (X Y Z : Int) (L : List C) : Prop where
  out : ∀ c ∈ L, ¬ In X Y Z c ∧ Small c
  all : ∀ c, In X Y Z c → ∀ m, m < 6 → ¬ In X Y Z (nbr c m) → nbr c m ∈ L
  len : L.length ≤ 216
theorem Mg.all {L : List C} {x : Nat} (hX : Box X Y Z) (h : Mg X Y Z L x 0 0) (hx : (x : Int) = X + 2) : Mgn X Y Z L := by
  refine ⟨fun c hc => ?_, fun c hc m hm ho => ?_, by have := h.len; unfold Box at hX; omega⟩
  · obtain ⟨h1, h2, _⟩ := (h.mem c).mp hc
    refine ⟨h2, ?_⟩
    unfold Box at hX; unfold Small; omega
  · rw [h.mem]
    refine ⟨?_, ho, ?_⟩
    all_goals
      unfold In at hc
      obtain ⟨c1, c2, c3⟩ := c
      obtain rfl | rfl | rfl | rfl | rfl | rfl : m = 0 ∨ m = 1 ∨ m = 2 ∨ m = 3 ∨ m = 4 ∨ m = 5 := by omega
      all_goals simp [nbr, movC, addC, sgn] at hc ⊢ <;> omega
/-! ### The reference's search from the margin -/
structure Sch (X Y Z : Int) (F MG q S : List C) (n k : Nat) : Prop where
  vS : Valid X Y Z S
  qs : ∃ r, q = MG ++ r ∧ r.Nodup ∧ (∀ c, c ∈ S ↔ c ∈ r) ∧ ∀ c ∈ r, c ∈ F
  rch : ∀ c ∈ S, Rch adjR (fun x => x ∈ F) (fun x => ∃ m, m < 6 ∧ ¬ In X Y Z (nbr x m)) c
  cls : ∀ j m, (j < n ∧ m < 6 ∨ j = n ∧ m < k) → j < q.length → nbr (at3 q j) m ∈ F → nbr (at3 q j) m ∈ S
variable {F MG q S : List C} {n k : Nat}
theorem Sch.start (hX : Box X Y Z) : Sch X Y Z F MG MG [] 0 0 :=
  ⟨valid_nil hX, ⟨[], by simp, List.nodup_nil, by simp, by simp⟩, by simp, fun j m h => by omega⟩
theorem Sch.len (h : Sch X Y Z F MG q S n k) : q.length ≤ MG.length + F.length := by
  obtain ⟨r, rfl, h1, _, h3⟩ := h.qs
  have := nodup_len h1 h3
  simp; omega
theorem Sch.mem (h : Sch X Y Z F MG q S n k) {c : C} (hc : c ∈ q) : c ∈ MG ∨ c ∈ S := by
  obtain ⟨r, rfl, _, h2, _⟩ := h.qs
  rcases List.mem_append.mp hc with g | g
  · exact .inl g
  · exact .inr ((h2 c).mpr g)
theorem Sch.T (h : Sch X Y Z F MG q S n k) (hM : Mgn X Y Z MG) (hF : Valid X Y Z F) (hn : n < q.length) (hk : k < 6) (he : nbr (at3 q n) k ∈ F) (hs : ¬ nbr (at3 q n) k ∈ S) :
    Sch X Y Z F MG (q ++ [nbr (at3 q n) k]) (withC S (nbr (at3 q n) k)) n (k + 1) := by
  have hin := hF.inn _ he
  obtain ⟨w1, w2⟩ := withC_valid h.vS hin
  refine ⟨w1, ?_, fun c hc => ?_, fun j m hj hjl hf => ?_⟩
  · obtain ⟨r, rfl, h1, h2, h3⟩ := h.qs
    refine ⟨r ++ [nbr (at3 (MG ++ r) n) k], by rw [List.append_assoc], ?_, fun c => ?_, fun c hc => ?_⟩
    · rw [List.nodup_append]
      refine ⟨h1, by simp, fun a ha b hb => ?_⟩
      simp at hb; subst hb
      intro e; subst e; exact hs ((h2 _).mpr ha)
    · rw [w2, h2, List.mem_append, List.mem_singleton]
    · rcases List.mem_append.mp hc with g | g
      · exact h3 c g
      · rw [List.mem_singleton.mp g]; exact he
  · rcases (w2 c).mp hc with g | rfl
    · exact h.rch c g
    · rcases h.mem (at3_mem hn) with g | g
      · obtain ⟨m, hm, hb⟩ := nbr_back (at3 q n) hk
        exact .base he ⟨m, hm, by rw [hb]; exact (hM.out _ g).1⟩
      · exact .step (h.rch _ g) (adj_nbr.mpr ⟨k, hk, rfl⟩) he
  · have hlt : j < q.length := by omega
    rw [at3_app_l hlt] at hf ⊢
    rw [w2]
    rcases hj with hj | ⟨rfl, hj⟩
    · exact .inl (h.cls j m (.inl hj) hlt hf)
    · rcases Nat.lt_or_ge m k with g | g
      · exact .inl (h.cls j m (.inr ⟨rfl, g⟩) hlt hf)
      · obtain rfl : m = k := by omega
        exact .inr rfl
theorem Sch.skip (h : Sch X Y Z F MG q S n k) (hs : nbr (at3 q n) k ∈ F → nbr (at3 q n) k ∈ S) : Sch X Y Z F MG q S n (k + 1) := by
  refine ⟨h.vS, h.qs, h.rch, fun j m hj hjl hf => ?_⟩
  rcases hj with hj | ⟨rfl, hj⟩
  · exact h.cls j m (.inl hj) hjl hf
  · rcases Nat.lt_or_ge m k with g | g
    · exact h.cls j m (.inr ⟨rfl, g⟩) hjl hf
    · obtain rfl : m = k := by omega
      exact hs hf
theorem Sch.next (h : Sch X Y Z F MG q S n k) (hk : k = 6) : Sch X Y Z F MG q S (n + 1) 0 := by
  subst hk
  refine ⟨h.vS, h.qs, h.rch, fun j m hj hjl hf => ?_⟩
  rcases hj with ⟨hj, hm⟩ | ⟨_, hm⟩
  · rcases Nat.lt_or_ge j n with g | g
    · exact h.cls j m (.inl ⟨g, hm⟩) hjl hf
    · exact h.cls j m (.inr ⟨by omega, hm⟩) hjl hf
  · omega
theorem Sch.done {cs : List C} (hX : Box X Y Z) (h : Sch X Y Z (freeL X Y Z cs) MG q S n 0) (hM : Mgn X Y Z MG) (hn : n = q.length) : S = outL X Y Z cs := by
  subst hn
  have hF := free_valid hX cs
  refine h.vS.ext (rchL_valid hF _) fun c hc => ?_
  unfold outL
  rw [rchL_mem]
  obtain ⟨r, hq, h1, h2, h3⟩ := h.qs
  constructor
  · intro g
    refine (h.rch c g).congr (fun x hx => hx) fun x hx hr => List.mem_filter.mpr ⟨hx, (rim_iff hX).mpr hr⟩
  · intro g
    induction g with
    | @base d g1 g2 =>
      obtain ⟨m, hm, ho⟩ := (rim_iff hX).mp (List.mem_filter.mp g2).2
      have hin := hF.inn _ g1
      have hmg := hM.all _ hin m hm ho
      obtain ⟨j, hj, e⟩ := mem_at3 hmg
      obtain ⟨m', hm', hb⟩ := nbr_back d hm
      have hjq : j < q.length := by rw [hq]; simp; omega
      have e2 : at3 q j = nbr d m := by rw [hq, at3_app_l hj]; exact e
      have := h.cls j m' (.inl ⟨hjq, hm'⟩) hjq (by rw [e2, hb]; exact g1)
      rw [e2, hb] at this
      exact this
    | @step d e g1 g2 g3 ih =>
      have hd : d ∈ q := by rw [hq]; exact List.mem_append_right _ ((h2 d).mp (ih (hF.inn _ g1.mem)))
      obtain ⟨j, hj, e1⟩ := mem_at3 hd
      obtain ⟨m, hm, e2⟩ := adj_nbr.mp g2
      have := h.cls j m (.inl ⟨hj, hm⟩) hj (by rw [e1, e2]; exact g3)
      rw [e1, e2] at this
      exact this
def encF (cs S : List C) (c : C) : Bool := !decide (c ∈ cs) && !decide (c ∈ S)
theorem enc_T {cs S : List C} {c : C} (h : ¬ c ∈ cs) (h2 : ¬ c ∈ S) : encF cs S c = true := by simp [encF, h, h2]
theorem enc_F1 {cs S : List C} {c : C} (h : c ∈ cs) : encF cs S c = false := by simp [encF, h]
theorem enc_F2 {cs S : List C} {c : C} (h : c ∈ S) : encF cs S c = false := by simp [encF, h]
theorem enc_filter (X Y Z : Int) (cs : List C) : (allC X Y Z).filter (encF cs (outL X Y Z cs)) = encL X Y Z cs := by
  unfold encL freeL
  rw [List.filter_filter]
  congr 1
  funext c
  unfold encF
  rw [Bool.and_comm]
/-- The six steps. -/
def STP : List C := [(-1, 0, 0), (1, 0, 0), (0, -1, 0), (0, 1, 0), (0, 0, -1), (0, 0, 1)]
theorem stp_nbr {c : C} {m : Nat} (hm : m < 6) : addC c (at3 STP m) = nbr c m := by
  obtain ⟨c1, c2, c3⟩ := c
  obtain rfl | rfl | rfl | rfl | rfl | rfl : m = 0 ∨ m = 1 ∨ m = 2 ∨ m = 3 ∨ m = 4 ∨ m = 5 := by omega
  all_goals simp [addC, at3, STP, nbr, movC, sgn]
theorem stp_sm {m : Nat} (hm : m < 6) : (-1000 ≤ (at3 STP m).1 ∧ (at3 STP m).1 ≤ 1000) ∧ (-1000 ≤ (at3 STP m).2.1 ∧ (at3 STP m).2.1 ≤ 1000) ∧ (-1000 ≤ (at3 STP m).2.2 ∧ (at3 STP m).2.2 ≤ 1000) := by
  obtain rfl | rfl | rfl | rfl | rfl | rfl : m = 0 ∨ m = 1 ∨ m = 2 ∨ m = 3 ∨ m = 4 ∨ m = 5 := by omega
  all_goals decide
/-! ### Six counts -/
structure Six (o : List Int) (t : Int) : Prop where
  len : o.length = 6
  sum : o.sum = t
  pos : ∀ z ∈ o, 0 ≤ z
theorem sum_at {o : List Int} (hp : ∀ z ∈ o, 0 ≤ z) : ∀ j, 0 ≤ at1 o j ∧ at1 o j ≤ o.sum := by
  induction o with
  | nil => intro j; simp [at1]
  | cons a o ih =>
    intro j
    have h0 := hp a (by simp)
    have ih2 := ih (fun z hz => hp z (by simp [hz]))
    have hs : 0 ≤ o.sum := by have := ih2 o.length; simp [at1] at this; exact this
    cases j with
    | zero => simp [at1]; omega
    | succ j => have := ih2 j; simp [at1] at this ⊢; omega
theorem sum_set : ∀ {o : List Int} {j : Nat}, j < o.length → (o.set j (at1 o j + 1)).sum = o.sum + 1
  | [], j, h => absurd h (by simp)
  | a :: o, 0, _ => by simp [at1]; omega
  | a :: o, j + 1, h => by
    have ih := sum_set (o := o) (j := j) (by simpa using h)
    simp [at1] at ih ⊢
    omega
theorem Six.put {o : List Int} {t : Int} (h : Six o t) {j : Nat} (hj : j < 6) : Six (o.set j (at1 o j + 1)) (t + 1) := by
  refine ⟨by simp [h.len], by rw [sum_set (by rw [h.len]; exact hj), h.sum], fun z hz => ?_⟩
  rcases List.mem_or_eq_of_mem_set hz with g | g
  · exact h.pos z g
  · have := (sum_at h.pos j).1; omega
def sumI (o : List Int) (j : Nat) : Int := (o.take j).sum
theorem sumI_succ {o : List Int} {j : Nat} (h : j < o.length) : sumI o (j + 1) = sumI o j + at1 o j := by
  unfold sumI
  rw [List.take_succ_eq_append_getElem h, List.sum_append]
  simp [at1, List.getD, h]
theorem sumI_bd {o : List Int} (hp : ∀ z ∈ o, 0 ≤ z) (j : Nat) : 0 ≤ sumI o j ∧ sumI o j ≤ o.sum := by
  have h1 : 0 ≤ sumI o j := by
    have := (sum_at (o := o.take j) (fun z hz => hp z (List.mem_of_mem_take hz)) (o.take j).length)
    unfold sumI; omega
  have h2 : 0 ≤ (o.drop j).sum := by
    have := (sum_at (o := o.drop j) (fun z hz => hp z (List.mem_of_mem_drop hz)) (o.drop j).length)
    omega
  have h3 : o.sum = sumI o j + (o.drop j).sum := by
    unfold sumI
    rw [← List.sum_append, List.take_append_drop]
  omega
theorem sumI_all {o : List Int} {j : Nat} (h : o.length ≤ j) : sumI o j = o.sum := by unfold sumI; rw [List.take_of_length_le h]
def bareS (cs E : List C) (c : C) (o : List Int) : Nat → List Int
  | 0 => o
  | k + 1 => if faceF cs E c k then (bareS cs E c o k).set k (at1 (bareS cs E c o k) k + 1) else bareS cs E c o k
def bareN (cs E : List C) : Nat → List Int
  | 0 => [0, 0, 0, 0, 0, 0]
  | i + 1 => bareS cs E (at3 cs i) (bareN cs E i) 6
theorem bareS_T {cs E : List C} {c : C} {o : List Int} {k : Nat} (h : faceF cs E c k = true) : (bareS cs E c o k).set k (at1 (bareS cs E c o k) k + 1) = bareS cs E c o (k + 1) := by simp only [bareS, h, if_true]
theorem bareS_F {cs E : List C} {c : C} {o : List Int} {k : Nat} (h : faceF cs E c k = false) : bareS cs E c o k = bareS cs E c o (k + 1) := by simp [bareS, h]
theorem bareS_six {cs E : List C} {c : C} {o : List Int} {t : Int} (h : Six o t) : ∀ k, k ≤ 6 → Six (bareS cs E c o k) (t + cntF (faceF cs E c) k)
  | 0, _ => by simpa [bareS, cntF] using h
  | k + 1, hk => by
    have ih := bareS_six (cs := cs) (E := E) (c := c) h k (by omega)
    cases hf : faceF cs E c k with
    | true => rw [← bareS_T hf, ← cnt_T hf, ← Int.add_assoc]; exact ih.put (by omega)
    | false => rw [← bareS_F hf, ← cnt_F hf]; exact ih
theorem bareN_six (cs E : List C) : ∀ i, Six (bareN cs E i) (faceN cs E i)
  | 0 => ⟨rfl, rfl, by simp [bareN]⟩
  | i + 1 => bareS_six (bareN_six cs E i) 6 (Nat.le_refl _)
end Go.Sep
/- Counting by recursion over rows of cells; sets taken apart by their lowest bits. -/
namespace Go.Sep
open Go
set_option linter.unusedVariables false
set_option linter.unusedSimpArgs false

def sumF (g : Nat → Int) : Nat → Int
  | 0 => 0
  | i + 1 => sumF g i + g i
theorem sumF_congr {g h : Nat → Int} : ∀ {i : Nat}, (∀ j, j < i → g j = h j) → sumF g i = sumF h i
  | 0, _ => rfl
  | i + 1, e => by simp only [sumF]; rw [sumF_congr fun j hj => e j (by omega), e i (by omega)]
theorem sumF_bd {g : Nat → Int} {B : Int} : ∀ {i : Nat}, (∀ j, j < i → 0 ≤ g j ∧ g j ≤ B) → 0 ≤ sumF g i ∧ sumF g i ≤ (i : Int) * B
  | 0, _ => by simp [sumF]
  | i + 1, h => by
    have ih := sumF_bd (g := g) (B := B) (i := i) fun j hj => h j (by omega)
    have h1 := h i (by omega)
    simp only [sumF]
    rw [show ((i + 1 : Nat) : Int) * B = (i : Int) * B + B by rw [Int.natCast_add, Int.add_mul]; simp]
    omega
def fac : Nat → Int
  | 0 => 1
  | f + 1 => ((f + 1 : Nat) : Int) * fac f
theorem fac_pos : ∀ f, 1 ≤ fac f
  | 0 => Int.le_refl _
  | f + 1 => by
    have h := fac_pos f
    have : 1 * 1 ≤ ((f + 1 : Nat) : Int) * fac f := Int.mul_le_mul (by omega) h (by omega) (by omega)
    simp only [fac]; omega
theorem fac_le {a b : Nat} (h : a ≤ b) : fac a ≤ fac b := by
  induction b with
  | zero => obtain rfl : a = 0 := by omega
            exact Int.le_refl _
  | succ b ih =>
    rcases Nat.lt_or_ge b a with g | g
    · obtain rfl : a = b + 1 := by omega
      exact Int.le_refl _
    · refine Int.le_trans (ih g) ?_
      have h1 := fac_pos b
      have : 1 * fac b ≤ ((b + 1 : Nat) : Int) * fac b := Int.mul_le_mul_of_nonneg_right (by omega) (by omega)
      simp only [fac]; omega

section recursion
variable (N : List C → List C) (M : List C → C → List C)
def recF : Nat → List C → Int
  | 0, _ => 1
  | f + 1, L => if L.length = 0 then 1 else sumF (fun j => recF f (M L (at3 (N L) j))) (N L).length
def recL (L : List C) : Int := recF N M L.length L
structure RecOk : Prop where
  n : ∀ L, (N L).length ≤ L.length
  m : ∀ L j, j < (N L).length → (M L (at3 (N L) j)).length < L.length
variable {N M}
theorem recF_nil {f : Nat} {L : List C} (h : L.length = 0) : recF N M f L = 1 := by
  cases f with
  | zero => rfl
  | succ f => simp only [recF, h, if_true]
theorem rec_fuel (h : RecOk N M) : ∀ (f g : Nat) (L : List C), L.length ≤ f → L.length ≤ g → recF N M f L = recF N M g L
  | 0, g, L, hf, _ => by rw [recF_nil (by omega), recF_nil (by omega)]
  | f + 1, 0, L, _, hg => by rw [recF_nil (by omega), recF_nil (by omega)]
  | f + 1, g + 1, L, hf, hg => by
    by_cases h0 : L.length = 0
    · rw [recF_nil h0, recF_nil h0]
    · simp only [recF, h0, if_false]
      exact sumF_congr fun j hj => by have := h.m L j hj; exact rec_fuel h f g _ (by omega) (by omega)
theorem rec_nil {L : List C} (h : L.length = 0) : recL N M L = 1 := recF_nil h
theorem rec_cons (h : RecOk N M) {L : List C} (h0 : ¬ L.length = 0) : recL N M L = sumF (fun j => recL N M (M L (at3 (N L) j))) (N L).length := by
  obtain ⟨k, hk⟩ : ∃ k, L.length = k + 1 := ⟨L.length - 1, by omega⟩
  unfold recL
  rw [hk]
  simp only [recF, h0, if_false]
  exact sumF_congr fun j hj => by have := h.m L j hj; exact rec_fuel h _ _ _ (by omega) (Nat.le_refl _)
theorem rec_bd (h : RecOk N M) : ∀ (f : Nat) (L : List C), L.length ≤ f → 0 ≤ recL N M L ∧ recL N M L ≤ fac f
  | 0, L, hL => by rw [rec_nil (by omega)]; simp [fac]
  | f + 1, L, hL => by
    by_cases h0 : L.length = 0
    · rw [rec_nil h0]; have := fac_pos (f + 1); omega
    · rw [rec_cons h h0]
      have hb := sumF_bd (g := fun j => recL N M (M L (at3 (N L) j))) (B := fac f) (i := (N L).length) fun j hj => rec_bd h f _ (by have := h.m L j hj; omega)
      have hn := h.n L
      have hf := fac_pos f
      have : ((N L).length : Int) * fac f ≤ ((f + 1 : Nat) : Int) * fac f := Int.mul_le_mul_of_nonneg_right (by omega) (by omega)
      simp only [fac]; omega
theorem rec_walk (h : RecOk N M) {L : List C} (hL : L.length ≤ 18) {i : Nat} (hi : i ≤ (N L).length) : 0 ≤ sumF (fun j => recL N M (M L (at3 (N L) j))) i ∧ sumF (fun j => recL N M (M L (at3 (N L) j))) i ≤ 6402373705728000 := by
  have hn := h.n L
  have hb := sumF_bd (g := fun j => recL N M (M L (at3 (N L) j))) (B := fac 17) (i := i) fun j hj => rec_bd h 17 _ (by have := h.m L j (by omega); omega)
  have : (i : Int) * fac 17 ≤ 18 * fac 17 := Int.mul_le_mul_of_nonneg_right (by omega) (by decide)
  have e : 18 * fac 17 = 6402373705728000 := by decide
  omega
theorem rec_term (h : RecOk N M) {L : List C} (hL : L.length ≤ 18) {i : Nat} (hi : i < (N L).length) : 0 ≤ recL N M (M L (at3 (N L) i)) ∧ recL N M (M L (at3 (N L) i)) ≤ 6402373705728000 := by
  have hb := rec_bd h 18 (M L (at3 (N L) i)) (by have := h.m L i hi; omega)
  have e : fac 18 = 6402373705728000 := by decide
  omega
end recursion

theorem without_lt {L : List C} {c : C} (h : c ∈ L) : (without L c).length < L.length := by
  unfold without
  exact List.length_filter_lt_length_iff_exists.mpr ⟨c, h, by simp⟩

/-! ### The lowest bits, one after the other -/
theorem dec_bit {s : BitVec 64} {i : Nat} (hi : i < 64) (h1 : s.getLsbD i = true) (h2 : ∀ j, j < i → s.getLsbD j = false) : s &&& (s - 1#64) = s &&& ~~~(1#64 <<< i) := by
  rw [← BitVec.not_neg]
  have hl := low_bit hi h1 h2
  apply BitVec.eq_of_getLsbD_eq
  intro j hj
  have hb := congrArg (fun x : BitVec 64 => x.getLsbD j) hl
  simp only [BitVec.getLsbD_and] at hb
  rw [BitVec.getLsbD_and, BitVec.getLsbD_and, BitVec.getLsbD_not, BitVec.getLsbD_not, ← hb]
  cases s.getLsbD j <;> simp
theorem bit_low {X Y Z : Int} {s : BitVec 64} {L : List C} (h : Rep X Y Z s L) (hne : 0 < L.length) : ∀ j, j < cellIx Y Z (at3 L 0) → s.getLsbD j = false := by
  have hX := h.valid.box
  have hm := at3_mem hne
  have hin := h.valid.inn _ hm
  intro j hj
  cases e : s.getLsbD j with
  | false => rfl
  | true =>
    exfalso
    have h64 := cellIx_lt64 hX hin
    have hjv := h.top j (by omega) e
    have hc := cellAt_in hX hjv
    have h2 := (h.mem _ hc).mp (by rw [ix_cellAt hX hjv]; exact e)
    obtain ⟨k, hk, e2⟩ := mem_at3 h2
    rcases Nat.eq_zero_or_pos k with g | g
    · subst g; rw [e2, ix_cellAt hX hjv] at hj; omega
    · have := ix_mono h.valid g hk
      rw [e2, ix_cellAt hX hjv] at this; omega
theorem without_head {X Y Z : Int} {L : List C} (h : Valid X Y Z L) (hne : 0 < L.length) : without L (at3 L 0) = L.drop 1 := by
  have hnd := valid_nodup h
  cases L with
  | nil => simp at hne
  | cons c L =>
    obtain ⟨h1, _⟩ := List.nodup_cons.mp hnd
    show (c :: L).filter (fun d => !decide (d = c)) = L
    rw [List.filter_cons_of_neg (by simp)]
    exact List.filter_eq_self.mpr fun d hd => by
      have : d ≠ c := fun e => h1 (e ▸ hd)
      simp [this]
theorem valid_drop {X Y Z : Int} {L : List C} (h : Valid X Y Z L) (i : Nat) : Valid X Y Z (L.drop i) :=
  ⟨h.box, fun c hc => h.inn c (List.mem_of_mem_drop hc), by
    have := h.rise
    exact this.sublist (List.Sublist.map _ (List.drop_sublist i L))⟩
theorem at3_drop {L : List C} {i : Nat} : at3 (L.drop i) 0 = at3 L i := by simp [at3, List.getD]
theorem drop_low {X Y Z : Int} {L : List C} (h : Valid X Y Z L) {i : Nat} (hi : i < L.length) : mask Y Z (L.drop i) &&& -mask Y Z (L.drop i) = 1#64 <<< cellIx Y Z (at3 L i) := by
  rw [rep_low (rep_mask (valid_drop h i)) (by simp; omega), at3_drop]
theorem drop_next {X Y Z : Int} {L : List C} (h : Valid X Y Z L) {i : Nat} (hi : i < L.length) : mask Y Z (L.drop i) &&& (mask Y Z (L.drop i) - 1#64) = mask Y Z (L.drop (i + 1)) := by
  have hv := valid_drop h i
  have hne : 0 < (L.drop i).length := by simp; omega
  have hin := hv.inn _ (at3_mem hne)
  have hr := rep_mask hv
  rw [dec_bit (cellIx_lt64 h.box hin) ((hr.mem _ hin).mpr (at3_mem hne)) (bit_low hr hne)]
  have := (hr.without hin)
  rw [without_head hv hne, List.drop_drop] at this
  exact this.toMask
theorem drop_lt {X Y Z : Int} {L : List C} (h : Valid X Y Z L) {i : Nat} (hz : ¬ mask Y Z (L.drop i) = 0#64) : i < L.length := by
  have := mask_some (valid_drop h i) hz
  simp at this; omega
theorem drop_ge {X Y Z : Int} {L : List C} (h : Valid X Y Z L) {i : Nat} (hz : mask Y Z (L.drop i) = 0#64) : L.length ≤ i := by
  have := mask_nil (valid_drop h i) hz
  simp at this; omega

/-! ### Dominoes -/
def domN (L : List C) : List C := L.filter (adjF (at3 L 0))
def domM (L : List C) (e : C) : List C := without (without L (at3 L 0)) e
theorem dom_ok : RecOk domN domM := ⟨fun L => List.length_filter_le _ _, fun L j hj => by
  have h1 : 0 < L.length := by have := List.length_filter_le (adjF (at3 L 0)) L; unfold domN at hj; omega
  have := without_lt (at3_mem h1)
  have := without_len (without L (at3 L 0)) (at3 (domN L) j)
  unfold domM; omega⟩
theorem dom_mask {X Y Z : Int} {L : List C} (hv : Valid X Y Z L) (hne : 0 < L.length) {i : Nat} (hi : i < (domN L).length) :
    (mask Y Z L &&& ~~~(mask Y Z L &&& -mask Y Z L)) &&& ~~~(mask Y Z ((domN L).drop i) &&& -mask Y Z ((domN L).drop i)) = mask Y Z (domM L (at3 (domN L) i)) := by
  rw [rep_low (rep_mask hv) hne, drop_low (L := domN L) (hv.filter _) hi]
  have h1 := (rep_mask hv).without (hv.inn _ (at3_mem hne))
  exact (h1.without (hv.inn _ (List.mem_filter.mp (at3_mem hi)).1)).toMask
theorem dom_valid {X Y Z : Int} {L : List C} (hv : Valid X Y Z L) (e : C) : Valid X Y Z (domM L e) := without_valid (without_valid hv _) _
end Go.Sep
/- Maps in walks; counting with a memory. -/
namespace Go.Sep
open Go
set_option linter.unusedVariables false
set_option linter.unusedSimpArgs false

section rules
variable {P : Program} {ts : Temps} {H : Heap} {n : Nat} {x y i : Operand} {t : TypeId}
def mapGet (k : IntKind) (a : Int) (z : Value) (es : List (Value × Value)) : Option (Value × Bool) :=
  match mapFind k a es 0 with
  | some (some (_, v)) => some (v, true)
  | some none => some (z, false)
  | none => none
theorem e_makeMap : E P (.makeMap t none) ts H n (.map (some n)) (H.set n (.map [])) (n + 1) := ⟨by simp only [cop, cMakeMap], rfl⟩
theorem cLookup_at {kt et : TypeId} {kk k : IntKind} {a : Int} {r : Nat} {es : List (Value × Value)} {v z : Value} {b ok : Bool} {sz by' : Nat} {zz : List Value} {g : Bool} {sz' by'' : Nat} {z' : List Value} {g' : Bool}
    (ht : ti P t = some ⟨.map kt et, sz, by', zz, g⟩) (hK : ti P kt = some ⟨.int kk, sz', by'', z', g'⟩) (hz : zeroOf P et = some z) (hkz : konst z = true) (hH : H r = some (.map es)) (hv : mapGet k a z es = some (v, b)) :
    cLookup P t ok H (.map (some r)) (.int k a) = some (if ok then .tuple #[v, .bool b] else v) := by
  unfold cLookup
  simp only [ht, hK, hz, hH, hkz, if_true]
  unfold mapGet at hv
  split at hv
  · rename_i h
    simp only [Option.some.injEq, Prod.mk.injEq] at hv
    obtain ⟨rfl, rfl⟩ := hv
    rw [h]
  · rename_i h
    simp only [Option.some.injEq, Prod.mk.injEq] at hv
    obtain ⟨rfl, rfl⟩ := hv
    rw [h]
  · simp at hv
theorem e_lookup2 {kt et : TypeId} {kk k : IntKind} {a : Int} {r : Nat} {es : List (Value × Value)} {v z : Value} {b : Bool} {sz by' : Nat} {zz : List Value} {g : Bool} {sz' by'' : Nat} {z' : List Value} {g' : Bool}
    (ht : ti P t = some ⟨.map kt et, sz, by', zz, g⟩) (hK : ti P kt = some ⟨.int kk, sz', by'', z', g'⟩) (hz : zeroOf P et = some z) (hkz : konst z = true) (hx : ev ts x = some (.map (some r))) (hi : ev ts i = some (.int k a)) (hH : H r = some (.map es)) (hv : mapGet k a z es = some (v, b)) :
    E P (.lookup t x i true) ts H n (.tuple #[v, .bool b]) H n :=
  ⟨by simp only [cop, ev2, hx, hi, cLookup_at ht hK hz hkz hH hv, withH]; rfl, rfl⟩
theorem e_lookup1 {kt et : TypeId} {kk k : IntKind} {a : Int} {r : Nat} {es : List (Value × Value)} {v z : Value} {b : Bool} {sz by' : Nat} {zz : List Value} {g : Bool} {sz' by'' : Nat} {z' : List Value} {g' : Bool}
    (ht : ti P t = some ⟨.map kt et, sz, by', zz, g⟩) (hK : ti P kt = some ⟨.int kk, sz', by'', z', g'⟩) (hz : zeroOf P et = some z) (hkz : konst z = true) (hx : ev ts x = some (.map (some r))) (hi : ev ts i = some (.int k a)) (hH : H r = some (.map es)) (hv : mapGet k a z es = some (v, b)) :
    E P (.lookup t x i false) ts H n v H n :=
  ⟨by simp only [cop, ev2, hx, hi, cLookup_at ht hK hz hkz hH hv, withH]; rfl, rfl⟩
theorem cMapW_at {m k : Operand} {kt et : TypeId} {kk q : IntKind} {a : Int} {r : Nat} {es es' : List (Value × Value)} {v : Value} {sz by' : Nat} {zz : List Value} {g : Bool} {sz' by'' : Nat} {z' : List Value} {g' : Bool}
    (ht : ti P t = some ⟨.map kt et, sz, by', zz, g⟩) (hK : ti P kt = some ⟨.int kk, sz', by'', z', g'⟩) (hm : ev ts m = some (.map (some r))) (hk : ev ts k = some (.int q a)) (hx : ev ts x = some v) (h1 : oneV v = true) (hH : H r = some (.map es)) (hp : mapPut q a v es = some es') :
    cMapW P t m k x ts H n = some (.tuple #[], H.set r (.map es'), n) := by
  unfold cMapW
  simp only [hm, hk, hx]
  have : cMapUpdate P t H (.map (some r)) (.int q a) v = some (H.set r (.map es')) := by
    unfold cMapUpdate
    simp only [ht, hK, hH]
    cases v <;> first | (simp [oneV] at h1; done) | (simp only [hp])
  rw [this]
theorem e_mapUpdate {m k : Operand} {kt et : TypeId} {kk q : IntKind} {a : Int} {r : Nat} {es es' : List (Value × Value)} {v : Value} {sz by' : Nat} {zz : List Value} {g : Bool} {sz' by'' : Nat} {z' : List Value} {g' : Bool}
    (ht : ti P t = some ⟨.map kt et, sz, by', zz, g⟩) (hK : ti P kt = some ⟨.int kk, sz', by'', z', g'⟩) (hm : ev ts m = some (.map (some r))) (hk : ev ts k = some (.int q a)) (hx : ev ts x = some v) (h1 : oneV v = true) (hH : H r = some (.map es)) (hp : mapPut q a v es = some es') :
    E P (.mapUpdate t m k x) ts H n (.tuple #[]) (H.set r (.map es')) n := ⟨by simp only [cop]; exact cMapW_at ht hK hm hk hx h1 hH hp, rfl⟩
theorem e_insert {m k : Operand} {kt et : TypeId} {kk q : IntKind} {a : Int} {r : Nat} {es es' : List (Value × Value)} {v : Value} {sz by' : Nat} {zz : List Value} {g : Bool} {sz' by'' : Nat} {z' : List Value} {g' : Bool}
    (ht : ti P t = some ⟨.map kt et, sz, by', zz, g⟩) (hK : ti P kt = some ⟨.int kk, sz', by'', z', g'⟩) (hm : ev ts m = some (.map (some r))) (hk : ev ts k = some (.int q a)) (hx : ev ts x = some v) (h1 : oneV v = true) (hH : H r = some (.map es)) (hp : mapPut q a v es = some es') :
    E P (.insert t m k x) ts H n (.tuple #[]) (H.set r (.map es')) n := ⟨by simp only [cop]; exact cMapW_at ht hK hm hk hx h1 hH hp, rfl⟩
end rules

section drawnM
variable {P : Program} {N : Nat} {ops : Array Oper} {r : List Oper} {ms : List Nat} {m j : Nat} {acc : List (Nat × Foot)} {ts : Temps} {H : Heap} {n t : Nat} {v : Value} {K : St → Prop}
  {op : Op} {ty : TypeId} {pos : String} {after : Array Edge} {gd : Option (Nat × Bool)}
/-- A call that writes to an old block. -/
theorem dCM {f : FuncId} {args : List Value} {b : Nat} {c : Blk} (hd : okDst N (some t) = true) (hw : wantC ops ⟨some t, op, ty, pos, after, gd⟩ ts = some true) (hkd : kindOf op ts = .eff 0 0 []) (hc : calleeOf ts op = some (f, args))
    (hf : Fn P f args (hide (hidden m acc) n H) n v ((hide (hidden m acc) n H).set b c) n) (ha : accOk m (.eff n n [b]) acc) (hb : b < n) (hu : b ∉ hidden m acc)
    (hk : wopsD P N ops r ms (j + 1) ((j, .eff n n [b]) :: acc) ⟨(t, v) :: ts, H.set b c, n⟩ K) : wopsD P N ops (⟨some t, op, ty, pos, after, gd⟩ :: r) (m :: ms) j acc ⟨ts, H, n⟩ K := by
  simp only [wopsD, hd, hw, hkd, putT]
  refine ⟨trivial, [b], by simpa using ⟨hb, hu⟩, ?_⟩
  simp only [stepOp, hc]
  refine ⟨v, _, n, hf, Nat.le_refl _, fun y hy hyb hu' => by rw [Heap.set_ne _ _ (by simpa using hyb)]; unfold hide; rw [if_pos ⟨hy, hu'⟩], ha, ?_⟩
  have : unhide (hidden m acc) n H ((hide (hidden m acc) n H).set b c) = H.set b c := by
    funext y
    unfold unhide
    by_cases e : y = b
    · subst e; rw [if_pos ⟨hb, hu⟩, Heap.set_same, Heap.set_same]
    · rw [Heap.set_ne _ _ e, Heap.set_ne _ _ e]
      split
      · rename_i hh; unfold hide; rw [if_pos hh]
      · rfl
  rw [this]; exact hk
/-- A call that writes to two old blocks. -/
theorem dCM2 {f : FuncId} {args : List Value} {b b' : Nat} {c c' : Blk} (hd : okDst N (some t) = true) (hw : wantC ops ⟨some t, op, ty, pos, after, gd⟩ ts = some true) (hkd : kindOf op ts = .eff 0 0 []) (hc : calleeOf ts op = some (f, args))
    (hf : Fn P f args (hide (hidden m acc) n H) n v (((hide (hidden m acc) n H).set b c).set b' c') n) (ha : accOk m (.eff n n [b, b']) acc) (hb : b < n ∧ b' < n) (hu : b ∉ hidden m acc ∧ b' ∉ hidden m acc)
    (hk : wopsD P N ops r ms (j + 1) ((j, .eff n n [b, b']) :: acc) ⟨(t, v) :: ts, (H.set b c).set b' c', n⟩ K) : wopsD P N ops (⟨some t, op, ty, pos, after, gd⟩ :: r) (m :: ms) j acc ⟨ts, H, n⟩ K := by
  simp only [wopsD, hd, hw, hkd, putT]
  refine ⟨trivial, [b, b'], ?_, ?_⟩
  · intro y hy
    simp at hy
    rcases hy with rfl | rfl
    · exact ⟨hb.1, hu.1⟩
    · exact ⟨hb.2, hu.2⟩
  simp only [stepOp, hc]
  refine ⟨v, _, n, hf, Nat.le_refl _, fun y hy hyb hu' => ?_, ha, ?_⟩
  · simp at hyb
    rw [Heap.set_ne _ _ hyb.2, Heap.set_ne _ _ hyb.1]; unfold hide; rw [if_pos ⟨hy, hu'⟩]
  have : unhide (hidden m acc) n H (((hide (hidden m acc) n H).set b c).set b' c') = (H.set b c).set b' c' := by
    funext y
    unfold unhide
    by_cases e' : y = b'
    · subst e'; rw [if_pos ⟨hb.2, hu.2⟩, Heap.set_same, Heap.set_same]
    · rw [Heap.set_ne _ _ e', Heap.set_ne _ _ e']
      by_cases e : y = b
      · subst e; rw [if_pos ⟨hb.1, hu.1⟩, Heap.set_same, Heap.set_same]
      · rw [Heap.set_ne _ _ e, Heap.set_ne _ _ e]
        split
        · rename_i hh; unfold hide; rw [if_pos hh]
        · rfl
  rw [this]; exact hk
end drawnM

section ends
variable {P : Program} {s : St}
/-- Entries without names. -/
def plainE (es : List (Value × Value)) : Bool := es.all fun p => plainA p.1 && plainA p.2
theorem plainE_ren {ρ : Nat → Nat} {es : List (Value × Value)} (h : plainE es = true) (n : Nat) : es = es.map (fun p => (renC ρ p.1, renC ρ p.2)) ∧ es.all (fun p => ltC n p.1 && ltC n p.2) = true := by
  unfold plainE at h
  rw [List.all_eq_true] at h
  have h2 : ∀ p ∈ es, plainA p.1 = true ∧ plainA p.2 = true := fun p hp => by have := h p hp; simpa using this
  refine ⟨?_, List.all_eq_true.mpr fun p hp => by simp [(plainA_ren (ρ := ρ) (h2 p hp).1).2 n, (plainA_ren (ρ := ρ) (h2 p hp).2).2 n]⟩
  calc es = es.map id := (List.map_id _).symm
    _ = es.map (fun p => (renC ρ p.1, renC ρ p.2)) := List.map_congr_left fun p hp => by rw [(plainA_ren (h2 p hp).1).1, (plainA_ren (h2 p hp).2).1]; rfl
theorem Ends.vM {fn : Func} {H : Heap} {n b : Nat} {v v' : Value} {es es' : List (Value × Value)} (hb : b < n) (hle : OldBut [b] n H s.H) (hH : ∀ x, n ≤ x → H x = none) (hbk : s.H b = some (.map es')) (hes : es' = es) (hp : plainE es = true)
    (hv : ltT n v = true) (hres : resOf P s fn.results.toList = some v') (he : v' = v) : Ends P fn H n s v (H.set b (.map es)) n := by
  subst hes he
  refine ⟨id, fun _ _ => rfl, by rw [hres]; congr 1; exact (renT_id _).symm, hv, fun x c hx => ?_, fun x y _ _ h => h⟩
  by_cases e : x = b
  · subst e
    rw [Heap.set_same] at hx
    obtain rfl := Option.some.inj hx
    refine .inr ⟨hb, ?_⟩
    simp only [id, hbk]
    exact plainE_ren hp _
  · rw [Heap.set_ne _ _ e] at hx
    have hlt : x < n := by
      rcases Nat.lt_or_ge x n with g | g
      · exact g
      · rw [hH x g] at hx; simp at hx
    exact .inl ⟨hlt, hx, hle x c hlt (by simpa using e) hx⟩
theorem Heap.set_self {H : Heap} {x : Nat} {b : Blk} (h : H x = some b) : H.set x b = H := by
  funext y
  unfold Heap.set
  split
  · rename_i e; rw [e, h]
  · rfl
end ends

/-! ### A memory of counts -/
section memory
variable (Y Z : Int) (N : List C → List C) (M : List C → C → List C)
def encE (K : List C) : Value × Value := (U (mask Y Z K), .int .i64 (recL N M K))
def encM (ks : List (List C)) : List (Value × Value) := ks.map (encE Y Z N M)
def putK (L : List C) (ks : List (List C)) : List (List C) := if L ∈ ks then ks else ks ++ [L]
def memS (g : Nat → List (List C) → List (List C)) (ks : List (List C)) : Nat → List (List C)
  | 0 => ks
  | i + 1 => g i (memS g ks i)
def memK : Nat → List C → List (List C) → List (List C)
  | 0, _, ks => ks
  | f + 1, L, ks => if L ∈ ks then ks else putK L (memS (fun j => memK f (M L (at3 (N L) j))) ks (N L).length)
structure MemOk (X Y Z : Int) (ks : List (List C)) : Prop where
  val : ∀ K ∈ ks, Valid X Y Z K
  nil : [] ∈ ks
variable {Y Z N M} {X : Int}
theorem memK_hit {f : Nat} {L : List C} {ks : List (List C)} (h : L ∈ ks) : memK N M f L ks = ks := by
  cases f with
  | zero => rfl
  | succ f => simp only [memK, h, if_true]
theorem memK_miss {f : Nat} {L : List C} {ks : List (List C)} (h : ¬ L ∈ ks) : memK N M (f + 1) L ks = putK L (memS (fun j => memK N M f (M L (at3 (N L) j))) ks (N L).length) := by simp only [memK, h, if_false]
theorem MemOk.put {ks : List (List C)} (h : MemOk X Y Z ks) {L : List C} (hL : Valid X Y Z L) : MemOk X Y Z (putK L ks) := by
  unfold putK
  split
  · exact h
  · refine ⟨fun K hK => ?_, List.mem_append_left _ h.nil⟩
    rcases List.mem_append.mp hK with g | g
    · exact h.val K g
    · rw [List.mem_singleton.mp g]; exact hL
theorem memS_ok {g : Nat → List (List C) → List (List C)} {ks : List (List C)} (h : MemOk X Y Z ks) : ∀ i, (∀ j ks', j < i → MemOk X Y Z ks' → MemOk X Y Z (g j ks')) → MemOk X Y Z (memS g ks i)
  | 0, _ => h
  | i + 1, hg => hg i _ (by omega) (memS_ok h i fun j ks' hj => hg j ks' (by omega))
theorem memK_ok (hM : ∀ L e, Valid X Y Z L → Valid X Y Z (M L e)) : ∀ (f : Nat) (L : List C) (ks : List (List C)), Valid X Y Z L → MemOk X Y Z ks → MemOk X Y Z (memK N M f L ks)
  | 0, L, ks, _, h => h
  | f + 1, L, ks, hL, h => by
    by_cases e : L ∈ ks
    · rw [memK_hit e]; exact h
    · rw [memK_miss e]
      exact (memS_ok h _ fun j ks' _ h' => memK_ok hM f _ ks' (hM L _ hL) h').put hL
theorem mask_inj {K L : List C} (hK : Valid X Y Z K) (hL : Valid X Y Z L) (h : mask Y Z K = mask Y Z L) : K = L := ((rep_mask hK).eq_iff (rep_mask hL)).mp h
theorem find_enc {L : List C} (hL : Valid X Y Z L) : ∀ {ks : List (List C)} {i : Nat}, (∀ K ∈ ks, Valid X Y Z K) →
    (L ∈ ks → ∃ j, mapFind .u64 (((mask Y Z L).toNat : Nat) : Int) (encM Y Z N M ks) i = some (some (j, .int .i64 (recL N M L))) ∧ i ≤ j ∧ (encM Y Z N M ks)[j - i]? = some (encE Y Z N M L)) ∧
    (¬ L ∈ ks → mapFind .u64 (((mask Y Z L).toNat : Nat) : Int) (encM Y Z N M ks) i = some none)
  | [], i, _ => ⟨fun h => absurd h (by simp), fun _ => rfl⟩
  | K :: ks, i, hv => by
    have ih := find_enc hL (ks := ks) (i := i + 1) fun K hK => hv K (by simp [hK])
    have hKv := hv K (by simp)
    have e0 : mapFind .u64 (((mask Y Z L).toNat : Nat) : Int) (encM Y Z N M (K :: ks)) i = if (((mask Y Z L).toNat : Nat) : Int) = (((mask Y Z K).toNat : Nat) : Int) then some (some (i, .int .i64 (recL N M K))) else mapFind .u64 (((mask Y Z L).toNat : Nat) : Int) (encM Y Z N M ks) (i + 1) := by
      show mapFind .u64 _ ((U (mask Y Z K), Value.int .i64 (recL N M K)) :: encM Y Z N M ks) i = _
      simp only [U, mapFind, if_true]
    by_cases e : L = K
    · subst e
      refine ⟨fun _ => ⟨i, by rw [e0, if_pos rfl], Nat.le_refl _, by simp [encM]⟩, fun h => absurd (by simp) h⟩
    · have hne : ¬ (((mask Y Z L).toNat : Nat) : Int) = (((mask Y Z K).toNat : Nat) : Int) := fun g => e (mask_inj hL hKv (BitVec.eq_of_toNat_eq (by omega)))
      rw [e0, if_neg hne]
      constructor
      · intro h
        obtain ⟨j, h1, h2, h3⟩ := ih.1 (by simpa [e] using h)
        refine ⟨j, h1, by omega, ?_⟩
        rw [show j - i = (j - (i + 1)) + 1 by omega]
        simpa [encM] using h3
      · intro h
        exact ih.2 (by simp at h; exact h.2)
theorem get_hit {L : List C} (hL : Valid X Y Z L) {ks : List (List C)} (hm : MemOk X Y Z ks) (h : L ∈ ks) : mapGet .u64 (((mask Y Z L).toNat : Nat) : Int) (.int .i64 0) (encM Y Z N M ks) = some (.int .i64 (recL N M L), true) := by
  obtain ⟨j, h1, _⟩ := (find_enc (N := N) (M := M) hL (i := 0) hm.val).1 h
  unfold mapGet; rw [h1]
theorem get_miss {L : List C} (hL : Valid X Y Z L) {ks : List (List C)} (hm : MemOk X Y Z ks) (h : ¬ L ∈ ks) : mapGet .u64 (((mask Y Z L).toNat : Nat) : Int) (.int .i64 0) (encM Y Z N M ks) = some (.int .i64 0, false) := by
  have h1 := (find_enc (N := N) (M := M) hL (i := 0) hm.val).2 h
  unfold mapGet; rw [h1]
theorem put_enc {L : List C} (hL : Valid X Y Z L) {ks : List (List C)} (hm : MemOk X Y Z ks) : mapPut .u64 (((mask Y Z L).toNat : Nat) : Int) (.int .i64 (recL N M L)) (encM Y Z N M ks) = some (encM Y Z N M (putK L ks)) := by
  unfold putK
  by_cases h : L ∈ ks
  · obtain ⟨j, h1, _, h3⟩ := (find_enc (N := N) (M := M) hL (i := 0) hm.val).1 h
    rw [if_pos h]
    unfold mapPut
    rw [h1]
    simp only [Option.some.injEq]
    rw [Nat.sub_zero] at h3
    obtain ⟨hlt, h4⟩ := List.getElem?_eq_some_iff.mp h3
    rw [show ((Value.int .u64 (((mask Y Z L).toNat : Nat) : Int), Value.int .i64 (recL N M L)) : Value × Value) = (encM Y Z N M ks)[j] from h4.symm]
    exact List.set_getElem_self hlt
  · rw [if_neg h]
    unfold mapPut
    rw [(find_enc (N := N) (M := M) hL (i := 0) hm.val).2 h]
    simp only [encM, List.map_append]
    rfl
theorem encM_plain (ks : List (List C)) : plainE (encM Y Z N M ks) = true := by
  unfold plainE encM
  rw [List.all_eq_true]
  intro p hp
  obtain ⟨K, _, rfl⟩ := List.mem_map.mp hp
  rfl
theorem memOk_nil (hX : Box X Y Z) : MemOk X Y Z [[]] := ⟨fun K hK => by rw [List.mem_singleton.mp hK]; exact valid_nil hX, by simp⟩
theorem enc_nil : mapPut .u64 0 (.int .i64 1) [] = some (encM Y Z N M [[]]) := rfl
end memory

/-! ### Orders of staircases, orders of taking -/
theorem rep_sub {X Y Z : Int} {L : List C} (hv : Valid X Y Z L) {f : C → Bool} (hf : ∀ c, f c = true → c ∈ L) : Rep X Y Z (thoseTo Y Z f (vol X Y Z)) (L.filter f) := by
  refine (rep_those hv.box f).congr (hv.filter f) fun c hc => ?_
  simp only [List.mem_filter, allC_mem hv.box]
  exact ⟨fun h => ⟨hf c h.2, h.2⟩, fun h => ⟨hc, h.2⟩⟩
theorem sub_mask {X Y Z : Int} {L N : List C} (hv : Valid X Y Z L) (hN : Valid X Y Z N) (hs : ∀ c ∈ N, c ∈ L) {i : Nat} (hi : i < N.length) : mask Y Z L &&& ~~~(mask Y Z (N.drop i) &&& -mask Y Z (N.drop i)) = mask Y Z (without L (at3 N i)) := by
  rw [drop_low hN hi]
  exact ((rep_mask hv).without (hN.inn _ (at3_mem hi))).toMask
theorem sub_ok {f : List C → C → Bool} : RecOk (fun L => L.filter (f L)) without := ⟨fun L => List.length_filter_le _ _, fun L j hj => without_lt (List.mem_filter.mp (at3_mem hj)).1⟩
def ordN (L : List C) : List C := L.filter fun c => stairC (without L c)
noncomputable def takN (L : List C) : List C := L.filter (canB L)
theorem ord_ok : RecOk ordN without := sub_ok (f := fun L c => stairC (without L c))
theorem tak_ok : RecOk takN without := sub_ok (f := canB)
theorem ord_mask {X Y Z : Int} {L : List C} (hv : Valid X Y Z L) : thoseTo Y Z (cornF L) (vol X Y Z) = mask Y Z (ordN L) := by
  have h := (rep_sub hv (f := cornF L) fun c h => by simp [cornF] at h; exact h.1).toMask
  rw [h]
  congr 1
  unfold ordN
  refine List.filter_congr fun c hc => ?_
  simp [cornF, hc]
theorem tak_mask {X Y Z : Int} {L : List C} (hv : Valid X Y Z L) : thoseTo Y Z (canB L) (vol X Y Z) = mask Y Z (takN L) :=
  (rep_sub hv (f := canB L) fun c h => by simp [canB] at h; exact h.1).toMask
/-- The reference's sum: over all cells, those alone that can be taken. -/
noncomputable def takS (L : List C) (i : Nat) : Int := sumF (fun j => if canB L (at3 L j) then recL takN without (without L (at3 L j)) else 0) i
theorem takS_T {L : List C} {i : Nat} (hi : i < L.length) (h : canB L (at3 L i) = true) : takS L i + recL takN without (without L (at3 L i)) = takS L (i + 1) := by
  simp only [takS, sumF, h, if_true]
theorem takS_F {L : List C} {i : Nat} (hi : i < L.length) (h : canB L (at3 L i) = false) : takS L i = takS L (i + 1) := by
  simp only [takS, sumF, h, Bool.false_eq_true, if_false, Int.add_zero]
theorem sumF_filter {g : C → Int} {p : C → Bool} : ∀ (L : List C), sumF (fun j => if p (at3 L j) then g (at3 L j) else 0) L.length = sumF (fun j => g (at3 (L.filter p) j)) (L.filter p).length := by
  have key : ∀ (L : List C) (g : C → Int), sumF (fun j => g (at3 L j)) L.length = (L.map g).sum := by
    intro L g
    have : ∀ i, i ≤ L.length → sumF (fun j => g (at3 L j)) i = ((L.take i).map g).sum := by
      intro i
      induction i with
      | zero => intro _; simp [sumF]
      | succ i ih =>
        intro hi
        simp only [sumF]
        rw [ih (by omega), take_succ3 (by omega), List.map_append, List.sum_append]
        simp
    have := this L.length (Nat.le_refl _)
    rwa [List.take_length] at this
  intro L
  rw [key (L.filter p) g, key L (fun c => if p c then g c else 0)]
  induction L with
  | nil => rfl
  | cons c L ih =>
    cases h : p c with
    | true => rw [List.filter_cons_of_pos h]; simp only [List.map_cons, List.sum_cons, h, if_true, ih]
    | false => rw [List.filter_cons_of_neg (by simp [h])]; simp only [List.map_cons, List.sum_cons, h]; rw [ih]; simp
theorem takS_all {L : List C} (h : ¬ L.length = 0) : takS L L.length = recL takN without L := by
  rw [rec_cons tak_ok h]
  exact sumF_filter (g := fun c => recL takN without (without L c)) (p := canB L) L
theorem tak_term {L : List C} (hL : L.length ≤ 18) {i : Nat} (hi : i < L.length) : 0 ≤ recL takN without (without L (at3 L i)) ∧ recL takN without (without L (at3 L i)) ≤ 355687428096000 := by
  have hb := rec_bd tak_ok 17 (without L (at3 L i)) (by have := without_lt (at3_mem hi); omega)
  have e : fac 17 = 355687428096000 := by decide
  omega
theorem takS_bd {L : List C} (hL : L.length ≤ 18) (i : Nat) (hi : i ≤ L.length) : 0 ≤ takS L i ∧ takS L i ≤ 6402373705728000 := by
  have hb := sumF_bd (g := fun j => if canB L (at3 L j) then recL takN without (without L (at3 L j)) else 0) (B := 355687428096000) (i := i) fun j hj => by
    have := tak_term hL (show j < L.length by omega)
    split <;> omega
  unfold takS
  omega
end Go.Sep
/- Pairs of neighbours, one more after the other. -/
namespace Go.Sep
open Go
set_option linter.unusedVariables false
set_option linter.unusedSimpArgs false

/-! ### Partners and cells asked -/
abbrev Prt := List (Nat × Nat)
abbrev MSt := Prt × List Nat
def getP : Prt → Nat → Option Nat
  | [], _ => none
  | e :: p, k => if e.1 = k then some e.2 else getP p k
def putP : Prt → Nat → Nat → Prt
  | [], k, v => [(k, v)]
  | e :: p, k, v => if e.1 = k then (k, v) :: p else e :: putP p k v
theorem get_put (p : Prt) (k v j : Nat) : getP (putP p k v) j = if j = k then some v else getP p j := by
  induction p with
  | nil =>
    simp only [putP, getP]
    by_cases h : k = j
    · subst h; simp
    · have : ¬ j = k := fun e => h e.symm
      simp [h, this]
  | cons e p ih =>
    simp only [putP]
    by_cases h : e.1 = k
    · rw [if_pos h]
      simp only [getP]
      by_cases g : k = j
      · subst g; simp
      · have g2 : ¬ j = k := fun e => g e.symm
        have g3 : ¬ e.1 = j := fun x => g (by omega)
        simp [g, g2, g3]
    · rw [if_neg h]
      simp only [getP]
      by_cases g : e.1 = j
      · have : ¬ j = k := by omega
        simp [g, this]
      · rw [if_neg g, ih, if_neg g]
def encP (p : Prt) : List (Value × Value) := p.map fun (e : Nat × Nat) => (.int .i64 (e.1 : Int), .int .i64 (e.2 : Int))
def encS (m : List Nat) : List (Value × Value) := m.map fun (k : Nat) => (.int .i64 (k : Int), .bool true)
theorem find_encP (k : Nat) : ∀ (p : Prt) (i : Nat), mapFind .i64 (k : Int) (encP p) i = some none ∧ getP p k = none ∧ (∀ v, putP p k v = p ++ [(k, v)]) ∨
    ∃ (j v : Nat), mapFind .i64 (k : Int) (encP p) i = some (some (i + j, .int .i64 (v : Int))) ∧ getP p k = some v ∧ ∀ w, putP p k w = p.set j (k, w)
  | [], i => .inl ⟨rfl, rfl, fun v => rfl⟩
  | e :: p, i => by
    have e0 : mapFind .i64 (k : Int) (encP (e :: p)) i = if (k : Int) = (e.1 : Int) then some (some (i, .int .i64 (e.2 : Int))) else mapFind .i64 (k : Int) (encP p) (i + 1) := by
      show mapFind .i64 _ ((Value.int .i64 (e.1 : Int), Value.int .i64 (e.2 : Int)) :: encP p) i = _
      simp only [mapFind, if_true]
    by_cases h : e.1 = k
    · refine .inr ⟨0, e.2, by rw [e0, if_pos (by omega)]; rfl, by simp [getP, h], fun w => by simp [putP, h]⟩
    · have h2 : ¬ (k : Int) = (e.1 : Int) := by omega
      rw [e0, if_neg h2]
      rcases find_encP k p (i + 1) with ⟨h3, h4, h5⟩ | ⟨j, v, h3, h4, h5⟩
      · exact .inl ⟨h3, by simp [getP, h, h4], fun v => by simp [putP, h, h5]⟩
      · exact .inr ⟨j + 1, v, by rw [h3]; congr 3; omega, by simp [getP, h, h4], fun w => by simp [putP, h, h5]⟩
theorem getP_some {p : Prt} {k v : Nat} (h : getP p k = some v) : mapGet .i64 (k : Int) (.int .i64 0) (encP p) = some (.int .i64 (v : Int), true) := by
  rcases find_encP k p 0 with ⟨h3, h4, _⟩ | ⟨j, w, h3, h4, _⟩
  · rw [h4] at h; simp at h
  · rw [h4] at h; obtain rfl := Option.some.inj h
    unfold mapGet; rw [h3]
theorem getP_none {p : Prt} {k : Nat} (h : getP p k = none) : mapGet .i64 (k : Int) (.int .i64 0) (encP p) = some (.int .i64 0, false) := by
  rcases find_encP k p 0 with ⟨h3, h4, _⟩ | ⟨j, w, h3, h4, _⟩
  · unfold mapGet; rw [h3]
  · rw [h4] at h; simp at h
theorem putP_enc (p : Prt) (k v : Nat) : mapPut .i64 (k : Int) (.int .i64 (v : Int)) (encP p) = some (encP (putP p k v)) := by
  unfold mapPut
  rcases find_encP k p 0 with ⟨h3, _, h5⟩ | ⟨j, w, h3, _, h5⟩
  · rw [h3, h5]; simp [encP]
  · rw [h3, h5]; simp [encP, List.map_set]
theorem find_encS (k : Nat) : ∀ (m : List Nat) (i : Nat), (k ∈ m → ∃ j, mapFind .i64 (k : Int) (encS m) i = some (some (j, .bool true))) ∧ (¬ k ∈ m → mapFind .i64 (k : Int) (encS m) i = some none)
  | [], i => ⟨fun h => absurd h (by simp), fun _ => rfl⟩
  | e :: m, i => by
    have e0 : mapFind .i64 (k : Int) (encS (e :: m)) i = if (k : Int) = (e : Int) then some (some (i, .bool true)) else mapFind .i64 (k : Int) (encS m) (i + 1) := by
      show mapFind .i64 _ ((Value.int .i64 (e : Int), Value.bool true) :: encS m) i = _
      simp only [mapFind, if_true]
    have ih := find_encS k m (i + 1)
    by_cases h : k = e
    · subst h
      exact ⟨fun _ => ⟨i, by rw [e0, if_pos rfl]⟩, fun h => absurd (by simp) h⟩
    · rw [e0, if_neg (by omega)]
      exact ⟨fun g => ih.1 (by simpa [h] using g), fun g => ih.2 (by simp at g; exact g.2)⟩
theorem getS_yes {m : List Nat} {k : Nat} (h : k ∈ m) : mapGet .i64 (k : Int) (.bool false) (encS m) = some (.bool true, true) := by
  obtain ⟨j, h1⟩ := (find_encS k m 0).1 h
  unfold mapGet; rw [h1]
theorem getS_no {m : List Nat} {k : Nat} (h : ¬ k ∈ m) : mapGet .i64 (k : Int) (.bool false) (encS m) = some (.bool false, false) := by
  unfold mapGet; rw [(find_encS k m 0).2 h]
theorem getS (m : List Nat) (k : Nat) : mapGet .i64 (k : Int) (.bool false) (encS m) = some (.bool (decide (k ∈ m)), decide (k ∈ m)) := by
  by_cases h : k ∈ m
  · rw [getS_yes h, decide_eq_true h]
  · rw [getS_no h, decide_eq_false h]
theorem putS_enc {m : List Nat} {k : Nat} (h : ¬ k ∈ m) : mapPut .i64 (k : Int) (.bool true) (encS m) = some (encS (m ++ [k])) := by
  unfold mapPut; rw [(find_encS k m 0).2 h]; simp [encS]
theorem encP_plain (p : Prt) : plainE (encP p) = true := by
  unfold plainE encP
  rw [List.all_eq_true]
  intro q hq
  obtain ⟨e, _, rfl⟩ := List.mem_map.mp hq
  rfl
theorem encS_plain (m : List Nat) : plainE (encS m) = true := by
  unfold plainE encS
  rw [List.all_eq_true]
  intro q hq
  obtain ⟨e, _, rfl⟩ := List.mem_map.mp hq
  rfl
/-- The reference's rows. -/
def pAt (p : Prt) (k : Nat) : Int := match getP p k with
  | some v => (v : Int)
  | none => -1
def pVals (v : Nat) (p : Prt) : List Value := (List.range v).map fun (k : Nat) => .int .i64 (pAt p k)
def sVals (v : Nat) (m : List Nat) : List Value := (List.range v).map fun (k : Nat) => .bool (decide (k ∈ m))
theorem pVals_length (v : Nat) (p : Prt) : (pVals v p).length = v := by simp [pVals]
theorem sVals_length (v : Nat) (m : List Nat) : (sVals v m).length = v := by simp [sVals]
theorem pVals_at {v k : Nat} {p : Prt} (h : k < v) : (pVals v p)[0 + k * 1]? = some (.int .i64 (pAt p k)) := by simp [pVals, h]
theorem sVals_at {v k : Nat} {m : List Nat} (h : k < v) : (sVals v m)[0 + k * 1]? = some (.bool (decide (k ∈ m))) := by simp [sVals, h]
theorem pAt_put (p : Prt) (k e j : Nat) : pAt (putP p k e) j = if j = k then (e : Int) else pAt p j := by
  unfold pAt
  rw [get_put]
  by_cases h : j = k
  · simp [h]
  · simp [h]
theorem pVals_set {v k : Nat} {p : Prt} {e : Nat} (h : k < v) : (pVals v p).set (0 + k * 1) (.int .i64 (e : Int)) = pVals v (putP p k e) := by
  refine List.ext_getElem (by simp [pVals]) fun i h1 h2 => ?_
  simp only [pVals, Nat.zero_add, Nat.mul_one, List.getElem_set, List.getElem_map, List.getElem_range, pAt_put]
  by_cases g : k = i
  · subst g; simp
  · have : ¬ i = k := fun x => g x.symm
    simp [g, this]
theorem sVals_set {v k : Nat} {m : List Nat} (h : k < v) : (sVals v m).set (0 + k * 1) (.bool true) = sVals v (m ++ [k]) := by
  refine List.ext_getElem (by simp [sVals]) fun i h1 h2 => ?_
  simp only [sVals, Nat.zero_add, Nat.mul_one, List.getElem_set, List.getElem_map, List.getElem_range]
  by_cases g : k = i
  · subst g; simp
  · have : ¬ i = k := fun x => g x.symm
    simp [g, this]
theorem pVals_plain (v : Nat) (p : Prt) : (pVals v p).all plainA = true := by simp [pVals, plainA]
theorem sVals_plain (v : Nat) (m : List Nat) : (sVals v m).all plainA = true := by simp [sVals, plainA]
theorem pVals_snoc (v : Nat) : pVals v [] ++ [.int .i64 (-1)] = pVals (v + 1) [] := by simp [pVals, List.range_succ, pAt, getP]
theorem sVals_zero (v : Nat) : zeros [.bool false] v = sVals v [] := by
  induction v with
  | zero => rfl
  | succ v ih =>
    have e : zeros [Value.bool false] (v + 1) = Value.bool false :: zeros [Value.bool false] v := rfl
    rw [e, ih]
    simp only [sVals, List.range_succ_eq_map, List.map_cons, List.map_map]
    congr 1
def pOth (p : Prt) (k : Nat) : Int := match getP p k with
  | some v => (v : Int)
  | none => 0
theorem pOth_some {p : Prt} {k e : Nat} (h : getP p k = some e) : pOth p k = (e : Int) := by unfold pOth; rw [h]
theorem getP_all (p : Prt) (k : Nat) : mapGet .i64 (k : Int) (.int .i64 0) (encP p) = some (.int .i64 (pOth p k), (getP p k).isSome) := by
  cases h : getP p k with
  | none => rw [getP_none h]; simp [pOth, h]
  | some v => rw [getP_some h]; simp [pOth, h]
theorem isSome_F {p : Prt} {k : Nat} (h : (getP p k).isSome = false) : getP p k = none := by
  cases g : getP p k with
  | none => rfl
  | some v => rw [g] at h; simp at h
theorem pAt_neg {p : Prt} {k : Nat} (h : pAt p k < 0) : getP p k = none := by
  cases g : getP p k with
  | none => rfl
  | some v => unfold pAt at h; rw [g] at h; simp only [] at h; omega
theorem pAt_pos {p : Prt} {k : Nat} (h : ¬ pAt p k < 0) : ∃ e, getP p k = some e ∧ pAt p k = (e : Int) := by
  cases g : getP p k with
  | none => unfold pAt at h; rw [g] at h; simp only [] at h; omega
  | some v => exact ⟨v, rfl, by unfold pAt; rw [g]⟩
/-! ### One search -/
section search
variable (Y Z : Int) (F : List C)
def mtL (rec : C → MSt → Bool × MSt) (ev : Nat) : List C → MSt → Bool × MSt
  | [], st => (false, st)
  | o :: rest, st =>
    if cellIx Y Z o ∈ st.2 then mtL rec ev rest st
    else match getP st.1 (cellIx Y Z o) with
      | none => (true, (putP st.1 (cellIx Y Z o) ev, st.2 ++ [cellIx Y Z o]))
      | some e => if (rec (cellAt Y Z e) (st.1, st.2 ++ [cellIx Y Z o])).1 then (true, (putP (rec (cellAt Y Z e) (st.1, st.2 ++ [cellIx Y Z o])).2.1 (cellIx Y Z o) ev, (rec (cellAt Y Z e) (st.1, st.2 ++ [cellIx Y Z o])).2.2))
        else mtL rec ev rest (rec (cellAt Y Z e) (st.1, st.2 ++ [cellIx Y Z o])).2
def mtF : Nat → C → MSt → Bool × MSt
  | 0, _, st => (false, st)
  | f + 1, c, st => mtL Y Z (mtF f) (cellIx Y Z c) (F.filter (adjF c)) st
def unm (m : List Nat) : Nat := (F.filter fun o => !decide (cellIx Y Z o ∈ m)).length
variable {Y Z F} {rec : C → MSt → Bool × MSt} {ev : Nat} {N : List C} {i : Nat} {st : MSt}
theorem drop_at3 {N : List C} {i : Nat} (h : i < N.length) : N.drop i = at3 N i :: N.drop (i + 1) := by
  rw [List.drop_eq_getElem_cons h, at3_get h]
theorem mtL_end (h : N.length ≤ i) : mtL Y Z rec ev (N.drop i) st = (false, st) := by rw [List.drop_of_length_le h]; rfl
theorem mtL_met (hi : i < N.length) (h : cellIx Y Z (at3 N i) ∈ st.2) : mtL Y Z rec ev (N.drop i) st = mtL Y Z rec ev (N.drop (i + 1)) st := by
  rw [drop_at3 hi]; simp only [mtL, h, if_true]
theorem mtL_free (hi : i < N.length) (h : ¬ cellIx Y Z (at3 N i) ∈ st.2) (hg : getP st.1 (cellIx Y Z (at3 N i)) = none) : mtL Y Z rec ev (N.drop i) st = (true, (putP st.1 (cellIx Y Z (at3 N i)) ev, st.2 ++ [cellIx Y Z (at3 N i)])) := by
  rw [drop_at3 hi]; simp only [mtL, h, if_false, hg]
theorem mtL_yes {e : Nat} (hi : i < N.length) (h : ¬ cellIx Y Z (at3 N i) ∈ st.2) (hg : getP st.1 (cellIx Y Z (at3 N i)) = some e) (hr : (rec (cellAt Y Z e) (st.1, st.2 ++ [cellIx Y Z (at3 N i)])).1 = true) :
    mtL Y Z rec ev (N.drop i) st = (true, (putP (rec (cellAt Y Z e) (st.1, st.2 ++ [cellIx Y Z (at3 N i)])).2.1 (cellIx Y Z (at3 N i)) ev, (rec (cellAt Y Z e) (st.1, st.2 ++ [cellIx Y Z (at3 N i)])).2.2)) := by
  rw [drop_at3 hi]; simp only [mtL, h, if_false, hg, hr, if_true]
theorem mtL_no {e : Nat} (hi : i < N.length) (h : ¬ cellIx Y Z (at3 N i) ∈ st.2) (hg : getP st.1 (cellIx Y Z (at3 N i)) = some e) (hr : (rec (cellAt Y Z e) (st.1, st.2 ++ [cellIx Y Z (at3 N i)])).1 = false) :
    mtL Y Z rec ev (N.drop i) st = mtL Y Z rec ev (N.drop (i + 1)) (rec (cellAt Y Z e) (st.1, st.2 ++ [cellIx Y Z (at3 N i)])).2 := by
  rw [drop_at3 hi]; simp only [mtL, h, if_false, hg, hr, Bool.false_eq_true]
theorem mtF_start {f : Nat} {c : C} {st : MSt} : mtF Y Z F (f + 1) c st = mtL Y Z (mtF Y Z F f) (cellIx Y Z c) ((F.filter (adjF c)).drop 0) st := rfl
/-- What is asked stays asked; partners lie in the box. -/
def StOk (v : Nat) (st : MSt) : Prop := ∀ k e, getP st.1 k = some e → e < v
theorem StOk.put {v : Nat} {p : Prt} {m : List Nat} (h : StOk v (p, m)) {k e : Nat} (he : e < v) (m' : List Nat) : StOk v (putP p k e, m') := fun j x hx => by
  simp only [get_put] at hx
  split at hx
  · obtain rfl := Option.some.inj hx; exact he
  · exact h j x hx
theorem StOk.mark {v : Nat} {p : Prt} {m : List Nat} (h : StOk v (p, m)) (m' : List Nat) : StOk v (p, m') := fun j x hx => h j x hx
theorem mtL_ok {X : Int} {v : Nat} (hev : ev < v) (hat : ∀ e, e < v → In X Y Z (cellAt Y Z e)) (hrec : ∀ c st, In X Y Z c → StOk v st → StOk v (rec c st).2 ∧ ∀ k ∈ st.2, k ∈ (rec c st).2.2) : ∀ (N : List C) (st : MSt), StOk v st → StOk v (mtL Y Z rec ev N st).2 ∧ ∀ k ∈ st.2, k ∈ (mtL Y Z rec ev N st).2.2
  | [], st, h => ⟨h, fun k hk => hk⟩
  | o :: N, st, h => by
    simp only [mtL]
    split
    · exact mtL_ok hev hat hrec N st h
    · split
      · exact ⟨StOk.put (m := st.2) h hev _, fun k hk => List.mem_append_left _ hk⟩
      · rename_i e he
        have hm : StOk v (st.1, st.2 ++ [cellIx Y Z o]) := StOk.mark (m := st.2) h _
        obtain ⟨r1, r2⟩ := hrec (cellAt Y Z e) _ (hat e (h _ e he)) hm
        split
        · exact ⟨StOk.put (m := (rec (cellAt Y Z e) (st.1, st.2 ++ [cellIx Y Z o])).2.2) r1 hev _, fun k hk => r2 k (List.mem_append_left _ hk)⟩
        · obtain ⟨s1, s2⟩ := mtL_ok hev hat hrec N _ r1
          exact ⟨s1, fun k hk => s2 k (r2 k (List.mem_append_left _ hk))⟩
theorem mtF_ok {X : Int} (hX : Box X Y Z) : ∀ (f : Nat) (c : C) (st : MSt), In X Y Z c → StOk (vol X Y Z) st → StOk (vol X Y Z) (mtF Y Z F f c st).2 ∧ ∀ k ∈ st.2, k ∈ (mtF Y Z F f c st).2.2
  | 0, c, st, _, h => ⟨h, fun k hk => hk⟩
  | f + 1, c, st, hin, h => mtL_ok (cellIx_lt hX hin) (fun e he => cellAt_in hX he) (fun c st hc hs => mtF_ok hX f c st hc hs) _ st h
theorem unm_mono {m m' : List Nat} (h : ∀ k ∈ m, k ∈ m') : unm Y Z F m' ≤ unm Y Z F m := by
  unfold unm
  have : (F.filter fun o => !decide (cellIx Y Z o ∈ m')) = (F.filter fun o => !decide (cellIx Y Z o ∈ m)).filter fun o => !decide (cellIx Y Z o ∈ m') := by
    rw [List.filter_filter]
    refine List.filter_congr fun o _ => ?_
    by_cases g : cellIx Y Z o ∈ m
    · simp [g, h _ g]
    · simp [g]
  rw [this]
  exact List.length_filter_le _ _
theorem unm_mark {m : List Nat} {o : C} (ho : o ∈ F) (h : ¬ cellIx Y Z o ∈ m) : unm Y Z F (m ++ [cellIx Y Z o]) < unm Y Z F m := by
  unfold unm
  have : (F.filter fun q => !decide (cellIx Y Z q ∈ m ++ [cellIx Y Z o])) = (F.filter fun q => !decide (cellIx Y Z q ∈ m)).filter fun q => !decide (cellIx Y Z q ∈ m ++ [cellIx Y Z o]) := by
    rw [List.filter_filter]
    refine List.filter_congr fun q _ => ?_
    by_cases g : cellIx Y Z q ∈ m <;> simp [g]
  rw [this]
  exact List.length_filter_lt_length_iff_exists.mpr ⟨o, List.mem_filter.mpr ⟨ho, by simp [h]⟩, by simp⟩
theorem unm_le (m : List Nat) : unm Y Z F m ≤ F.length := List.length_filter_le _ _
end search
/-! ### All searches -/
def evnB (c : C) : Bool := decide ((c.1 + c.2.1 + c.2.2).tmod 2 = 0)
def mdN (Y Z : Int) (F : List C) : Nat → Int × Prt
  | 0 => (0, [])
  | i + 1 => if evnB (at3 F i) then ((mdN Y Z F i).1 + (if (mtF Y Z F (F.length + 1) (at3 F i) ((mdN Y Z F i).2, [])).1 then 1 else 0), (mtF Y Z F (F.length + 1) (at3 F i) ((mdN Y Z F i).2, [])).2.1) else mdN Y Z F i
theorem mdN_odd {Y Z : Int} {F : List C} {i : Nat} (h : evnB (at3 F i) = false) : mdN Y Z F (i + 1) = mdN Y Z F i := by simp only [mdN, h, Bool.false_eq_true, if_false]
theorem mdN_yes {Y Z : Int} {F : List C} {i : Nat} (h : evnB (at3 F i) = true) (hr : (mtF Y Z F (F.length + 1) (at3 F i) ((mdN Y Z F i).2, [])).1 = true) : mdN Y Z F (i + 1) = ((mdN Y Z F i).1 + 1, (mtF Y Z F (F.length + 1) (at3 F i) ((mdN Y Z F i).2, [])).2.1) := by simp only [mdN, h, hr, if_true]
theorem mdN_no {Y Z : Int} {F : List C} {i : Nat} (h : evnB (at3 F i) = true) (hr : (mtF Y Z F (F.length + 1) (at3 F i) ((mdN Y Z F i).2, [])).1 = false) : mdN Y Z F (i + 1) = ((mdN Y Z F i).1, (mtF Y Z F (F.length + 1) (at3 F i) ((mdN Y Z F i).2, [])).2.1) := by simp only [mdN, h, hr, if_true, Bool.false_eq_true, if_false, Int.add_zero]
theorem mdN_ok {X Y Z : Int} {F : List C} (hF : Valid X Y Z F) : ∀ i, i ≤ F.length → StOk (vol X Y Z) ((mdN Y Z F i).2, ([] : List Nat)) ∧ 0 ≤ (mdN Y Z F i).1 ∧ (mdN Y Z F i).1 ≤ (i : Int)
  | 0, _ => ⟨fun k e h => by simp [mdN, getP] at h, by simp [mdN]⟩
  | i + 1, hi => by
    obtain ⟨h1, h2⟩ := mdN_ok hF i (by omega)
    cases he : evnB (at3 F i) with
    | false => rw [mdN_odd he]; exact ⟨h1, by omega, by omega⟩
    | true =>
      have h3 := (mtF_ok (F := F) hF.box (F.length + 1) (at3 F i) _ (hF.inn _ (at3_mem (by omega))) h1).1
      have h4 : StOk (vol X Y Z) ((mtF Y Z F (F.length + 1) (at3 F i) ((mdN Y Z F i).2, [])).2.1, ([] : List Nat)) := StOk.mark (m := (mtF Y Z F (F.length + 1) (at3 F i) ((mdN Y Z F i).2, [])).2.2) h3 _
      cases hr : (mtF Y Z F (F.length + 1) (at3 F i) ((mdN Y Z F i).2, [])).1 with
      | true => rw [mdN_yes he hr]; exact ⟨h4, by simp only []; omega, by simp only []; omega⟩
      | false => rw [mdN_no he hr]; exact ⟨h4, by simp only []; omega, by simp only []; omega⟩

/-! ### Ends: two old blocks written -/
section ends
variable {P : Program} {s : St}
theorem Ends.vM2 {fn : Func} {H : Heap} {n b c : Nat} {v v' : Value} {eb ec eb' ec' : List (Value × Value)} (hb : b < n ∧ c < n ∧ b ≠ c) (hle : OldBut [b, c] n H s.H) (hH : ∀ x, n ≤ x → H x = none) (hbk : s.H b = some (.map eb')) (hck : s.H c = some (.map ec')) (he1 : eb' = eb) (he2 : ec' = ec) (hp : plainE eb = true ∧ plainE ec = true)
    (hv : ltT n v = true) (hres : resOf P s fn.results.toList = some v') (he : v' = v) : Ends P fn H n s v ((H.set b (.map eb)).set c (.map ec)) n := by
  subst he1 he2 he
  refine ⟨id, fun _ _ => rfl, by rw [hres]; congr 1; exact (renT_id _).symm, hv, fun x d hx => ?_, fun x y _ _ h => h⟩
  by_cases e2 : x = c
  · subst e2
    rw [Heap.set_same] at hx
    obtain rfl := Option.some.inj hx
    refine .inr ⟨hb.2.1, ?_⟩
    simp only [id, hck]
    exact plainE_ren hp.2 _
  · rw [Heap.set_ne _ _ e2] at hx
    by_cases e1 : x = b
    · subst e1
      rw [Heap.set_same] at hx
      obtain rfl := Option.some.inj hx
      refine .inr ⟨hb.1, ?_⟩
      simp only [id, hbk]
      exact plainE_ren hp.1 _
    · rw [Heap.set_ne _ _ e1] at hx
      have hlt : x < n := by
        rcases Nat.lt_or_ge x n with g | g
        · exact g
        · rw [hH x g] at hx; simp at hx
      exact .inl ⟨hlt, hx, hle x d hlt (by simp [e1, e2]) hx⟩
theorem Ends.vU2 {fn : Func} {H : Heap} {n b c : Nat} {v v' : Value} {eb ec eb' ec' : List Value} (hb : b < n ∧ c < n ∧ b ≠ c) (hle : OldBut [b, c] n H s.H) (hH : ∀ x, n ≤ x → H x = none) (hbk : s.H b = some (.cells false eb')) (hck : s.H c = some (.cells false ec')) (he1 : eb' = eb) (he2 : ec' = ec) (hp : eb.all plainA = true ∧ ec.all plainA = true)
    (hv : ltT n v = true) (hres : resOf P s fn.results.toList = some v') (he : v' = v) : Ends P fn H n s v ((H.set b (.cells false eb)).set c (.cells false ec)) n := by
  subst he1 he2 he
  refine ⟨id, fun _ _ => rfl, by rw [hres]; congr 1; exact (renT_id _).symm, hv, fun x d hx => ?_, fun x y _ _ h => h⟩
  by_cases e2 : x = c
  · subst e2
    rw [Heap.set_same] at hx
    obtain rfl := Option.some.inj hx
    refine .inr ⟨hb.2.1, ?_⟩
    simp only [id, hck]
    exact ⟨rfl, plain_ren hp.2 _⟩
  · rw [Heap.set_ne _ _ e2] at hx
    by_cases e1 : x = b
    · subst e1
      rw [Heap.set_same] at hx
      obtain rfl := Option.some.inj hx
      refine .inr ⟨hb.1, ?_⟩
      simp only [id, hbk]
      exact ⟨rfl, plain_ren hp.1 _⟩
    · rw [Heap.set_ne _ _ e1] at hx
      have hlt : x < n := by
        rcases Nat.lt_or_ge x n with g | g
        · exact g
        · rw [hH x g] at hx; simp at hx
      exact .inl ⟨hlt, hx, hle x d hlt (by simp [e1, e2]) hx⟩
end ends
end Go.Sep
