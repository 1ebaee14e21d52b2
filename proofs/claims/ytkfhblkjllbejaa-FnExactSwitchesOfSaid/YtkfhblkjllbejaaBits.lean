/- Sets of cells as bits: rules for printed walks, and what the bits are. -/
import Derived.Test.YtkfhblkjllbejaaCells
namespace Go.Sep
open Go
set_option linter.unusedVariables false
set_option linter.unusedSimpArgs false

variable {P : Program} {N : Nat} {ts : Temps} {H : Heap} {n : Nat}

/-- A set's value. -/
abbrev U (s : BitVec 64) : Value := .int .u64 ((s.toNat : Nat) : Int)

theorem wrapU (z : Nat) : IntKind.u64.wrap (z : Int) = ((BitVec.ofNat 64 z).toNat : Int) := by
  simp only [IntKind.wrap, IntKind.signed, IntKind.bits, BitVec.toNat_ofNat]
  simp

theorem ofIntU (s : BitVec 64) : BitVec.ofInt 64 ((s.toNat : Nat) : Int) = s := by
  apply BitVec.eq_of_toNat_eq
  rw [BitVec.toNat_ofInt]
  have := s.isLt
  omega

section
variable {x y : Operand} {a b : BitVec 64} {t u : TypeId}
theorem e_andU (hx : ev ts x = some (U a)) (hy : ev ts y = some (U b)) : E P (.binOp .and t x y u) ts H n (U (a &&& b)) H n :=
  e_cInt hx hy (by simp) (by
    simp only [cInt, IntKind.bits, ofIntU]
    rw [wrapU, BitVec.ofNat_toNat, BitVec.setWidth_eq]; rfl)
theorem e_orU (hx : ev ts x = some (U a)) (hy : ev ts y = some (U b)) : E P (.binOp .or t x y u) ts H n (U (a ||| b)) H n :=
  e_cInt hx hy (by simp) (by
    simp only [cInt, IntKind.bits, ofIntU]
    rw [wrapU, BitVec.ofNat_toNat, BitVec.setWidth_eq]; rfl)
theorem e_xorU (hx : ev ts x = some (U a)) (hy : ev ts y = some (U b)) : E P (.binOp .xor t x y u) ts H n (U (a ^^^ b)) H n :=
  e_cInt hx hy (by simp) (by
    simp only [cInt, IntKind.bits, ofIntU]
    rw [wrapU, BitVec.ofNat_toNat, BitVec.setWidth_eq]; rfl)
theorem e_andNotU (hx : ev ts x = some (U a)) (hy : ev ts y = some (U b)) : E P (.binOp .andNot t x y u) ts H n (U (a &&& ~~~ b)) H n :=
  e_cInt hx hy (by simp) (by
    simp only [cInt, IntKind.bits, ofIntU]
    rw [wrapU, BitVec.ofNat_toNat, BitVec.setWidth_eq]; rfl)
theorem e_addU (hx : ev ts x = some (U a)) (hy : ev ts y = some (U b)) : E P (.binOp .add t x y u) ts H n (U (a + b)) H n :=
  e_cInt hx hy (by simp) (by
    simp only [cInt]
    rw [show ((a.toNat : Nat) : Int) + ((b.toNat : Nat) : Int) = ((a.toNat + b.toNat : Nat) : Int) by omega, wrapU]
    simp [BitVec.toNat_add])
theorem e_subU (hx : ev ts x = some (U a)) (hy : ev ts y = some (U b)) : E P (.binOp .sub t x y u) ts H n (U (a - b)) H n :=
  e_cInt hx hy (by simp) (by
    simp only [cInt, IntKind.wrap, IntKind.signed, IntKind.bits, BitVec.toNat_sub]
    have h1 := a.isLt
    have h2 := b.isLt
    simp
    omega)
theorem e_eqlU (hx : ev ts x = some (U a)) (hy : ev ts y = some (U b)) : E P (.binOp .eql t x y u) ts H n (.bool (decide (a = b))) H n :=
  e_cInt hx hy (by simp) (by
    simp only [cInt]
    congr 2
    have : a = b ↔ ((a.toNat : Nat) : Int) = ((b.toNat : Nat) : Int) := by rw [BitVec.toNat_eq]; omega
    by_cases h : a = b
    · rw [h]; simp
    · simp [h]; exact fun e => h (this.mpr (by omega)))
theorem e_neqU (hx : ev ts x = some (U a)) (hy : ev ts y = some (U b)) : E P (.binOp .neq t x y u) ts H n (.bool (!decide (a = b))) H n :=
  e_cInt hx hy (by simp) (by
    simp only [cInt]
    congr 2
    have : a = b ↔ ((a.toNat : Nat) : Int) = ((b.toNat : Nat) : Int) := by rw [BitVec.toNat_eq]; omega
    by_cases h : a = b
    · rw [h]; simp
    · simp [h]; exact fun e => h (this.mpr (by omega)))
theorem e_shlU {q : IntKind} {j : Int} (k : Nat) (hx : ev ts x = some (U a)) (hy : ev ts y = some (.int q j)) (hj : j = (k : Int)) : E P (.binOp .shl t x y u) ts H n (U (a <<< k)) H n := by
  subst hj
  refine ⟨?_, rfl⟩
  simp only [cop, ev2, hx, hy, cBin, cShift]
  rw [if_neg (by omega)]
  simp only [withH, Int.toNat_natCast, IntKind.bits]
  congr 3
  rw [show ((a.toNat : Nat) : Int) * 2 ^ min k 64 = ((a.toNat * 2 ^ min k 64 : Nat) : Int) by simp, wrapU]
  congr 1
  rw [BitVec.toNat_ofNat, BitVec.toNat_shiftLeft, Nat.shiftLeft_eq]
  rcases Nat.le_total k 64 with h | h
  · rw [Nat.min_eq_left h]
  · rw [Nat.min_eq_right h, Nat.mul_mod_left]
    rw [show k = 64 + (k - 64) by omega, Nat.pow_add, ← Nat.mul_assoc, Nat.mul_right_comm, Nat.mul_mod_left]
theorem e_shrU {q : IntKind} {j : Int} (k : Nat) (hx : ev ts x = some (U a)) (hy : ev ts y = some (.int q j)) (hj : j = (k : Int)) : E P (.binOp .shr t x y u) ts H n (U (a >>> k)) H n := by
  subst hj
  refine ⟨?_, rfl⟩
  simp only [cop, ev2, hx, hy, cBin, cShift]
  rw [if_neg (by omega)]
  simp only [withH, Int.toNat_natCast, IntKind.bits]
  congr 3
  rw [BitVec.toNat_ushiftRight, Nat.shiftRight_eq_div_pow]
  have e : (2 : Int) ^ min k 64 = ((2 ^ min k 64 : Nat) : Int) := by simp
  rw [e, Int.fdiv_eq_ediv_of_nonneg _ (Int.natCast_nonneg _), ← Int.natCast_ediv]
  congr 1
  have ha := a.isLt
  rcases Nat.le_total k 64 with h | h
  · rw [Nat.min_eq_left h]
  · rw [Nat.min_eq_right h, Nat.div_eq_of_lt ha, Nat.div_eq_of_lt (Nat.lt_of_lt_of_le ha (Nat.pow_le_pow_right (by omega) h))]
theorem e_negU (hx : ev ts x = some (U a)) : E P (.unOp .neg t x) ts H n (U (-a)) H n := by
  refine ⟨?_, rfl⟩
  simp only [cop, ev1, hx, cUn, withH]
  congr 3
  simp only [IntKind.wrap, IntKind.signed, IntKind.bits, BitVec.toNat_neg]
  have h1 := a.isLt
  simp
  omega
/-- uint64 to int, where nothing is lost. -/
theorem e_convUI {src dst : TypeId} {d1 : TD} {s1 b1 : Nat} {z1 : List Value} {g1 : Bool} {s2 b2 : Nat} {z2 : List Value} {g2 : Bool} (h1 : ti P src = some ⟨d1, s1, b1, z1, g1⟩) (h2 : ti P dst = some ⟨.int .i64, s2, b2, z2, g2⟩)
    (hx : ev ts x = some (U a)) (ha : a.toNat < 9223372036854775808) : E P (.convert src dst x) ts H n (.int .i64 (a.toNat : Nat)) H n := by
  refine ⟨?_, rfl⟩
  simp only [cop, ev1, hx, cConv, h1, h2, withH]
  rw [wrap_in ⟨by omega, by omega⟩]
theorem e_convUU {src dst : TypeId} {d1 : TD} {s1 b1 : Nat} {z1 : List Value} {g1 : Bool} {s2 b2 : Nat} {z2 : List Value} {g2 : Bool} (h1 : ti P src = some ⟨d1, s1, b1, z1, g1⟩) (h2 : ti P dst = some ⟨.int .u64, s2, b2, z2, g2⟩)
    (hx : ev ts x = some (U a)) : E P (.convert src dst x) ts H n (U a) H n := by
  refine ⟨?_, rfl⟩
  simp only [cop, ev1, hx, cConv, h1, h2, withH]
  rw [wrapU]; simp
end
/-- A constant as a set. -/
theorem ev_cU {k : Nat} (hk : k < 2 ^ 64) {c : Operand} (h : ev ts c = some (.int .u64 (k : Int))) : ev ts c = some (U (BitVec.ofNat 64 k)) := by
  rw [h]; simp only [U, BitVec.toNat_ofNat, Nat.mod_eq_of_lt hk]

end Go.Sep
