/- Neighbours: their sets, faces. -/
import Derived.Test.YtkfhblkjllbejaaPop
namespace Go.Sep
open Go
set_option linter.unusedVariables false
set_option linter.unusedSimpArgs false

section
variable {P : Program} {ts : Temps} {H : Heap} {n : Nat} {x y : Operand} {t u : TypeId}
/-- '&' of two numbers that are not negative. -/
theorem e_andI {a b : Nat} {j : Int} (hx : ev ts x = some (.int .i64 (a : Nat))) (hy : ev ts y = some (.int .i64 j)) (hj : j = (b : Int)) (ha : a < 9223372036854775808) (hb : b < 9223372036854775808) :
    E P (.binOp .and t x y u) ts H n (.int .i64 ((a &&& b : Nat) : Int)) H n := by
  subst hj
  refine e_cInt hx hy (by simp) ?_
  have h1 : BitVec.ofInt 64 (a : Int) = BitVec.ofNat 64 a := by
    apply BitVec.eq_of_toNat_eq
    rw [BitVec.toNat_ofInt, BitVec.toNat_ofNat]; omega
  have h2 : BitVec.ofInt 64 (b : Int) = BitVec.ofNat 64 b := by
    apply BitVec.eq_of_toNat_eq
    rw [BitVec.toNat_ofInt, BitVec.toNat_ofNat]; omega
  have h3 : a &&& b ≤ a := Nat.and_le_left
  have h4 : (BitVec.ofNat 64 a &&& BitVec.ofNat 64 b).toNat = a &&& b := by
    rw [BitVec.toNat_and, BitVec.toNat_ofNat, BitVec.toNat_ofNat, Nat.mod_eq_of_lt (by omega), Nat.mod_eq_of_lt (by omega)]
  simp only [cInt, IntKind.bits, h1, h2]
  refine (congrArg (fun z : Nat => some (Value.int IntKind.i64 (IntKind.i64.wrap (z : Int)))) h4).trans ?_
  rw [wrap_in ⟨by omega, by omega⟩]
end
theorem and127 (a : Nat) : a &&& 127 = a % 128 := Nat.and_two_pow_sub_one_eq_mod a 7
/-- The library's count of bits, step by step. -/
theorem oc_all {s a b c d e f : BitVec 64} (hA : (s >>> 1 &&& BitVec.ofNat 64 6148914691236517205) + (s &&& BitVec.ofNat 64 6148914691236517205) = a)
    (hB : (a >>> 2 &&& BitVec.ofNat 64 3689348814741910323) + (a &&& BitVec.ofNat 64 3689348814741910323) = b) (hC : (b >>> 4 + b) &&& BitVec.ofNat 64 1085102592571150095 = c)
    (hD : c + c >>> 8 = d) (hE : d + d >>> 16 = e) (hF : e + e >>> 32 = f) : f.toNat < 9223372036854775808 ∧ f.toNat % 128 = popU s := by
  have m1 : (BitVec.ofNat 64 6148914691236517205).toNat = mk8 0x55 8 := by decide
  have m2 : (BitVec.ofNat 64 3689348814741910323).toNat = mk8 0x33 8 := by decide
  have m3 : (BitVec.ofNat 64 1085102592571150095).toNat = mk8 0x0f 8 := by decide
  have hs := s.isLt
  obtain ⟨⟨h1, h2, _⟩, h3⟩ := steps3 (x := s.toNat) (by simpa using hs)
  obtain ⟨g1, g2, g3, g4⟩ := last_steps (x := s.toNat)
  have ea : a.toNat = ((s.toNat / 2) &&& mk8 0x55 8) + (s.toNat &&& mk8 0x55 8) := by
    rw [← hA, BitVec.toNat_add, BitVec.toNat_and, BitVec.toNat_and, BitVec.toNat_ushiftRight, m1, Nat.shiftRight_eq_div_pow]
    exact Nat.mod_eq_of_lt h1
  rw [← ea] at h1 h2 h3
  have eb : b.toNat = ((a.toNat / 4) &&& mk8 0x33 8) + (a.toNat &&& mk8 0x33 8) := by
    rw [← hB, BitVec.toNat_add, BitVec.toNat_and, BitVec.toNat_and, BitVec.toNat_ushiftRight, m2, Nat.shiftRight_eq_div_pow]
    exact Nat.mod_eq_of_lt h2
  rw [← eb] at h3
  have ec : c.toNat = byt popB 8 s.toNat := by
    rw [← h3, ← hC, BitVec.toNat_and, BitVec.toNat_add, BitVec.toNat_ushiftRight, m3, Nat.shiftRight_eq_div_pow]
    congr 1
    apply Nat.mod_eq_of_lt
    have hb : b.toNat < 256 ^ 8 := b.isLt
    have hl : lowB 8 b.toNat := by
      obtain ⟨⟨_, _, hl⟩, _⟩ := steps3 (x := s.toNat) (by simpa using hs)
      rw [← ea, ← eb] at hl; exact hl
    have h5 : ∀ (n x : Nat), x < 256 ^ n → lowB n x → x ≤ 68 * (256 ^ n - 1) / 255 := by
      intro n
      induction n with
      | zero => intro x hx _; simp at hx; omega
      | succ n ih =>
        intro x hx hl
        have h6 := ih (x / 256) (by rw [Nat.pow_succ] at hx; omega) hl.2.2
        have h7 := hl.1
        have h8 := hl.2.1
        have h9 : 0 < 256 ^ n := Nat.pow_pos (by omega)
        rw [Nat.pow_succ]
        omega
    have := h5 8 b.toNat hb hl
    simp at this ⊢
    omega
  have ed : d.toNat = byt popB 8 s.toNat + byt popB 8 s.toNat / 2 ^ 8 := by
    rw [← hD, BitVec.toNat_add, BitVec.toNat_ushiftRight, ec, Nat.shiftRight_eq_div_pow]
    exact Nat.mod_eq_of_lt g1
  have ee : e.toNat = byt popB 8 s.toNat + byt popB 8 s.toNat / 2 ^ 8 + (byt popB 8 s.toNat + byt popB 8 s.toNat / 2 ^ 8) / 2 ^ 16 := by
    rw [← hE, BitVec.toNat_add, BitVec.toNat_ushiftRight, ed, Nat.shiftRight_eq_div_pow]
    exact Nat.mod_eq_of_lt g2
  have ef : f.toNat = byt popB 8 s.toNat + byt popB 8 s.toNat / 2 ^ 8 + (byt popB 8 s.toNat + byt popB 8 s.toNat / 2 ^ 8) / 2 ^ 16 + (byt popB 8 s.toNat + byt popB 8 s.toNat / 2 ^ 8 + (byt popB 8 s.toNat + byt popB 8 s.toNat / 2 ^ 8) / 2 ^ 16) / 2 ^ 32 := by
    rw [← hF, BitVec.toNat_add, BitVec.toNat_ushiftRight, ee, Nat.shiftRight_eq_div_pow]
    exact Nat.mod_eq_of_lt g3
  refine ⟨?_, by rw [ef, popU_eq]; exact g4⟩
  have h8 : byt popB 8 s.toNat ≤ 8 * (256 ^ 8 - 1) / 255 := by
    have : ∀ (n x : Nat), byt popB n x ≤ 8 * (256 ^ n - 1) / 255 := by
      intro n
      induction n with
      | zero => intro x; simp [byt]
      | succ n ih =>
        intro x
        have h6 := ih (x / 256)
        have h7 := popB_le (x % 256) (Nat.mod_lt _ (by omega))
        have h9 : 0 < 256 ^ n := Nat.pow_pos (by omega)
        rw [Nat.pow_succ]
        simp only [byt]
        omega
    exact this 8 _
  simp at h8
  rw [ef]
  omega

/-! ### Neighbours by number -/
def sgn (f : Nat) : Int := if f = 0 then -1 else 1
/-- The neighbour beyond a face. -/
def nbr (c : C) (m : Nat) : C := movC c (m / 2) (sgn (m % 2))
theorem nbr_2 (c : C) {p f : Nat} (hf : f < 2) : nbr c (2 * p + f) = movC c p (sgn f) := by
  unfold nbr; rw [show (2 * p + f) / 2 = p by omega, show (2 * p + f) % 2 = f by omega]
theorem sm_ci {c : C} (h : (-1000 ≤ c.1 ∧ c.1 ≤ 1000) ∧ (-1000 ≤ c.2.1 ∧ c.2.1 ≤ 1000) ∧ (-1000 ≤ c.2.2 ∧ c.2.2 ≤ 1000)) (k : Nat) : -1000 ≤ ci c k ∧ ci c k ≤ 1000 := by
  unfold ci; split
  · exact h.1
  · split
    · exact h.2.1
    · exact h.2.2
theorem nbr_tri {c : C} {m : Nat} (hm : m < 6) : (tri c).set (0 + m / 2 * 1) (.int .i64 (ci c (m / 2) + (2 * (m : Int).tmod 2 - 1))) = tri (nbr c m) := by
  obtain rfl | rfl | rfl | rfl | rfl | rfl : m = 0 ∨ m = 1 ∨ m = 2 ∨ m = 3 ∨ m = 4 ∨ m = 5 := by omega
  all_goals exact mov_tri (by omega)
theorem tdiv2 (m : Nat) : (m : Int).tdiv 2 = ((m / 2 : Nat) : Int) := by rw [tdiv_ediv (by omega)]; omega
theorem tmod2 (m : Nat) : 0 ≤ (m : Int).tmod 2 ∧ (m : Int).tmod 2 ≤ 1 := by rw [tmod_emod (by omega)]; omega
def unitC (p : Nat) : C := if p = 0 then (1, 0, 0) else if p = 1 then (0, 1, 0) else (0, 0, 1)
theorem unit_list {p : Nat} (hp : p < 3) : [Value.int .i64 0, .int .i64 0, .int .i64 0].set (0 + p * 1) (.int .i64 1) = tri (unitC p) := by
  obtain rfl | rfl | rfl : p = 0 ∨ p = 1 ∨ p = 2 := by omega
  all_goals rfl
theorem unit_sm (p : Nat) : (-1000 ≤ (unitC p).1 ∧ (unitC p).1 ≤ 1000) ∧ (-1000 ≤ (unitC p).2.1 ∧ (unitC p).2.1 ≤ 1000) ∧ (-1000 ≤ (unitC p).2.2 ∧ (unitC p).2.2 ≤ 1000) := by
  unfold unitC; split
  · simp
  · split
    · simp
    · simp
theorem mov_unit (c : C) (p : Nat) : addC c (unitC p) = movC c p 1 := rfl
/-- The faces of a cube, one after the other. -/
def barH (X Y Z : Int) (p : Nat) (cs : List C) (o : List Int) (c : C) : Nat → List Int
  | 0 => o
  | f + 1 => if decide (movC c p (sgn f) ∈ cs) then barH X Y Z p cs o c f else incL (barH X Y Z p cs o c f) (lineIx X Y Z p c) 1
theorem barH_2 (X Y Z : Int) (p : Nat) (cs : List C) (o : List Int) (c : C) : barH X Y Z p cs o c 2 = barStep X Y Z p cs o c := rfl
theorem barH_length (X Y Z : Int) (p : Nat) (cs : List C) (o : List Int) (c : C) : ∀ f, (barH X Y Z p cs o c f).length = o.length
  | 0 => rfl
  | f + 1 => by simp only [barH]; split <;> simp [incL_length, barH_length X Y Z p cs o c f]
theorem barH_bd {X Y Z : Int} {p : Nat} {cs : List C} {o : List Int} {c : C} (hl : lineIx X Y Z p c < o.length) {b : Int} (h : ∀ j, 0 ≤ at1 o j ∧ at1 o j ≤ b) : ∀ f j, 0 ≤ at1 (barH X Y Z p cs o c f) j ∧ at1 (barH X Y Z p cs o c f) j ≤ b + (f : Int)
  | 0, j => by simpa [barH] using h j
  | f + 1, j => by
    have ih := barH_bd hl h (p := p) (cs := cs) f j
    simp only [barH]
    split
    · omega
    · rw [incL_at (by rw [barH_length]; exact hl)]; split <;> omega
theorem not_in {X Y Z : Int} {cs : List C} {c : C} (hv : Valid X Y Z cs) (h : inBox X Y Z c = false) : decide (c ∈ cs) = false := by
  refine decide_eq_false fun hm => ?_
  rw [inBox_of (hv.inn c hm)] at h; simp at h

/-! ### The set of all neighbours -/
def nearTo (X Y Z : Int) (c : C) : Nat → BitVec 64
  | 0 => 0#64
  | m + 1 => if inBox X Y Z (nbr c m) then nearTo X Y Z c m ||| 1#64 <<< cellIx Y Z (nbr c m) else nearTo X Y Z c m
theorem near_get {X Y Z : Int} {c : C} (hX : Box X Y Z) {j : Nat} (hj : j < 64) : ∀ m, (nearTo X Y Z c m).getLsbD j = true ↔ ∃ k, k < m ∧ inBox X Y Z (nbr c k) = true ∧ cellIx Y Z (nbr c k) = j
  | 0 => by simp [nearTo]
  | m + 1 => by
    have ih := near_get (c := c) hX hj m
    simp only [nearTo]
    by_cases h : inBox X Y Z (nbr c m) = true
    · rw [if_pos h, BitVec.getLsbD_or, bit_get hj, Bool.or_eq_true, ih, decide_eq_true_eq]
      constructor
      · rintro (⟨k, h1, h2, h3⟩ | e)
        · exact ⟨k, by omega, h2, h3⟩
        · exact ⟨m, by omega, h, e.symm⟩
      · rintro ⟨k, h1, h2, h3⟩
        rcases Nat.lt_or_ge k m with g | g
        · exact .inl ⟨k, g, h2, h3⟩
        · obtain rfl : k = m := by omega
          exact .inr h3.symm
    · rw [if_neg h, ih]
      constructor
      · rintro ⟨k, h1, h2, h3⟩; exact ⟨k, by omega, h2, h3⟩
      · rintro ⟨k, h1, h2, h3⟩
        rcases Nat.lt_or_ge k m with g | g
        · exact ⟨k, g, h2, h3⟩
        · obtain rfl : k = m := by omega
          exact absurd h2 h
abbrev nearS (X Y Z : Int) (c : C) : BitVec 64 := nearTo X Y Z c 6
def apartI (a b : C) : Int := max (a.1 - b.1) (b.1 - a.1) + max (a.2.1 - b.2.1) (b.2.1 - a.2.1) + max (a.2.2 - b.2.2) (b.2.2 - a.2.2)
theorem ab_n (a b : Int) : 0 ≤ max (a - b) (b - a) := by omega
theorem ab_0 {a b : Int} (h : max (a - b) (b - a) = 0) : a = b := by omega
theorem ab_1 {a b : Int} (h : max (a - b) (b - a) = 1) : a = b - 1 ∨ a = b + 1 := by omega
theorem ab_s (a : Int) : max (a - a) (a - a) = 0 := by omega
theorem ab_p (a : Int) : max (a + 1 - a) (a - (a + 1)) = 1 := by omega
theorem ab_m (a : Int) : max (a + -1 - a) (a - (a + -1)) = 1 := by omega
theorem apart_nbr (e c : C) : apartI e c = 1 ↔ ∃ m, m < 6 ∧ nbr c m = e := by
  obtain ⟨e1, e2, e3⟩ := e
  obtain ⟨c1, c2, c3⟩ := c
  constructor
  · intro h
    simp only [apartI] at h
    have n1 := ab_n e1 c1
    have n2 := ab_n e2 c2
    have n3 := ab_n e3 c3
    have k1 := @ab_0 e1 c1
    have k2 := @ab_0 e2 c2
    have k3 := @ab_0 e3 c3
    have l1 := @ab_1 e1 c1
    have l2 := @ab_1 e2 c2
    have l3 := @ab_1 e3 c3
    generalize max (e1 - c1) (c1 - e1) = m1 at *
    generalize max (e2 - c2) (c2 - e2) = m2 at *
    generalize max (e3 - c3) (c3 - e3) = m3 at *
    have : e1 = c1 - 1 ∧ e2 = c2 ∧ e3 = c3 ∨ e1 = c1 + 1 ∧ e2 = c2 ∧ e3 = c3 ∨ e1 = c1 ∧ e2 = c2 - 1 ∧ e3 = c3 ∨ e1 = c1 ∧ e2 = c2 + 1 ∧ e3 = c3 ∨ e1 = c1 ∧ e2 = c2 ∧ e3 = c3 - 1 ∨ e1 = c1 ∧ e2 = c2 ∧ e3 = c3 + 1 := by
      rcases (show m1 = 1 ∧ m2 = 0 ∧ m3 = 0 ∨ m1 = 0 ∧ m2 = 1 ∧ m3 = 0 ∨ m1 = 0 ∧ m2 = 0 ∧ m3 = 1 by omega) with ⟨a1, a2, a3⟩ | ⟨a1, a2, a3⟩ | ⟨a1, a2, a3⟩
      · have := l1 a1; have := k2 a2; have := k3 a3; rcases l1 a1 with g | g
        · exact .inl ⟨g, k2 a2, k3 a3⟩
        · exact .inr (.inl ⟨g, k2 a2, k3 a3⟩)
      · rcases l2 a2 with g | g
        · exact .inr (.inr (.inl ⟨k1 a1, g, k3 a3⟩))
        · exact .inr (.inr (.inr (.inl ⟨k1 a1, g, k3 a3⟩)))
      · rcases l3 a3 with g | g
        · exact .inr (.inr (.inr (.inr (.inl ⟨k1 a1, k2 a2, g⟩))))
        · exact .inr (.inr (.inr (.inr (.inr ⟨k1 a1, k2 a2, g⟩))))
    rcases this with ⟨h1, h2, h3⟩ | ⟨h1, h2, h3⟩ | ⟨h1, h2, h3⟩ | ⟨h1, h2, h3⟩ | ⟨h1, h2, h3⟩ | ⟨h1, h2, h3⟩
    · exact ⟨0, by omega, by subst h1 h2 h3; simp [nbr, movC, addC, sgn]; omega⟩
    · exact ⟨1, by omega, by subst h1 h2 h3; simp [nbr, movC, addC, sgn]⟩
    · exact ⟨2, by omega, by subst h1 h2 h3; simp [nbr, movC, addC, sgn]; omega⟩
    · exact ⟨3, by omega, by subst h1 h2 h3; simp [nbr, movC, addC, sgn]⟩
    · exact ⟨4, by omega, by subst h1 h2 h3; simp [nbr, movC, addC, sgn]; omega⟩
    · exact ⟨5, by omega, by subst h1 h2 h3; simp [nbr, movC, addC, sgn]⟩
  · rintro ⟨m, hm, h⟩
    obtain rfl | rfl | rfl | rfl | rfl | rfl : m = 0 ∨ m = 1 ∨ m = 2 ∨ m = 3 ∨ m = 4 ∨ m = 5 := by omega
    all_goals
      simp [nbr, movC, addC, sgn] at h
      obtain ⟨rfl, rfl, rfl⟩ := h
      simp only [apartI, ab_s, ab_p, ab_m]
      decide
def adjF (c : C) : C → Bool := fun e => decide (apartI e c = 1)
theorem rep_near {X Y Z : Int} (hX : Box X Y Z) (c : C) : Rep X Y Z (nearS X Y Z c) ((allC X Y Z).filter (adjF c)) :=
  ⟨(allC_valid hX).filter _, fun e he => by
    rw [near_get hX (cellIx_lt64 hX he), List.mem_filter, adjF, decide_eq_true_eq, apart_nbr]
    constructor
    · rintro ⟨k, h1, h2, h3⟩
      exact ⟨(allC_mem hX).mpr he, k, h1, ix_inj hX (inBox_bd h2) he h3⟩
    · rintro ⟨_, k, h1, h2⟩
      exact ⟨k, h1, by rw [h2]; exact inBox_of he, by rw [h2]⟩, fun j hj g => by
    obtain ⟨k, _, h2, h3⟩ := (near_get hX hj _).mp g
    have := cellIx_lt hX (inBox_bd h2)
    omega⟩
theorem Rep.near {X Y Z : Int} {s : BitVec 64} {L : List C} (h : Rep X Y Z s L) (c : C) : Rep X Y Z (nearS X Y Z c &&& s) (L.filter (adjF c)) := by
  have hX := h.valid.box
  refine ((rep_near hX c).inter h).congr (h.valid.filter _) fun e he => ?_
  simp only [List.mem_filter, decide_eq_true_eq, allC_mem hX]
  exact ⟨fun g => ⟨g.2, g.1.2⟩, fun g => ⟨⟨he, g.2⟩, g.1⟩⟩
theorem near_pop {X Y Z : Int} {cs : List C} (hv : Valid X Y Z cs) (c : C) : popU (nearS X Y Z c &&& mask Y Z cs) = (cs.filter (adjF c)).length := ((rep_mask hv).near c).pop
/-- How many neighbours the first cubes have. -/
def pairN (cs : List C) (i : Nat) : Int := ((cs.take i).map fun c => (((cs.filter (adjF c)).length : Nat) : Int)).sum
theorem pairN_zero (cs : List C) : pairN cs 0 = 0 := rfl
theorem pairN_succ {cs : List C} {i : Nat} (h : i < cs.length) : pairN cs i + (((cs.filter (adjF (at3 cs i))).length : Nat) : Int) = pairN cs (i + 1) := by
  unfold pairN; rw [take_succ3 h]; simp
theorem pairN_bd (cs : List C) : ∀ i, i ≤ cs.length → 0 ≤ pairN cs i ∧ pairN cs i ≤ (cs.length : Int) * (i : Int)
  | 0, _ => by simp [pairN_zero]
  | i + 1, h => by
    have ih := pairN_bd cs i (by omega)
    have : (cs.filter (adjF (at3 cs i))).length ≤ cs.length := List.length_filter_le _ _
    rw [← pairN_succ (by omega)]
    rw [show ((i + 1 : Nat) : Int) = (i : Int) + 1 by omega, Int.mul_add]
    omega
/-- Differences, number by number. -/
def apartN (a b : C) : Nat → Int
  | 0 => 0
  | k + 1 => apartN a b k + max (ci a k - ci b k) (ci b k - ci a k)
theorem apartN_3 (a b : C) : apartN a b 3 = apartI a b := by simp [apartN, apartI, ci]
theorem apartN_bd {a b : C} (ha : ∀ k, -1000 ≤ ci a k ∧ ci a k ≤ 1000) (hb : ∀ k, -1000 ≤ ci b k ∧ ci b k ≤ 1000) : ∀ k, 0 ≤ apartN a b k ∧ apartN a b k ≤ 2000 * (k : Int)
  | 0 => by simp [apartN]
  | k + 1 => by
    have ih := apartN_bd ha hb k
    have h1 := ha k
    have h2 := hb k
    simp only [apartN]; omega
theorem sgn_get {f : Nat} (hf : f < 2) : [Value.int .i64 (-1), Value.int .i64 1][((f : Nat) : Int).toNat * 1]? = some (.int .i64 (sgn f)) := by
  obtain rfl | rfl : f = 0 ∨ f = 1 := by omega
  all_goals rfl
theorem near_T {X Y Z : Int} {c : C} {d f : Nat} (h : inBox X Y Z (nbr c (2 * d + f)) = true) : nearTo X Y Z c (2 * d + (f + 1)) = nearTo X Y Z c (2 * d + f) ||| 1#64 <<< cellIx Y Z (nbr c (2 * d + f)) := by
  rw [← Nat.add_assoc]; simp only [nearTo, h, if_true]
theorem near_F {X Y Z : Int} {c : C} {d f : Nat} (h : inBox X Y Z (nbr c (2 * d + f)) = false) : nearTo X Y Z c (2 * d + (f + 1)) = nearTo X Y Z c (2 * d + f) := by
  rw [← Nat.add_assoc]; simp only [nearTo, h, Bool.false_eq_true, if_false]
theorem mul64 {a b : Nat} (ha : a ≤ 64) (hb : b ≤ 64) : (a : Int) * (b : Int) ≤ 4096 := by
  have h : a * b ≤ 64 * 64 := Nat.mul_le_mul ha hb
  have : ((a * b : Nat) : Int) ≤ 4096 := by omega
  simpa using this
theorem tdiv_2b {z : Int} (h : 0 ≤ z) : 0 ≤ z.tdiv 2 ∧ z.tdiv 2 ≤ z := by rw [tdiv_ediv h]; omega
end Go.Sep
