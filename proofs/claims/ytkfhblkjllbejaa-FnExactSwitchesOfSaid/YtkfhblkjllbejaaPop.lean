/- How many bits are set: byte by byte. -/
import Derived.Test.YtkfhblkjllbejaaSets5
namespace Go.Sep
open Go
set_option linter.unusedVariables false
set_option linter.unusedSimpArgs false

theorem and_byte {q y b a : Nat} (hy : y < 256) (ha : a < 256) : (256 * q + y) &&& (256 * b + a) = 256 * (q &&& b) + (y &&& a) := by
  apply Nat.eq_of_testBit_eq
  intro j
  have h1 : y &&& a < 2 ^ 8 := Nat.lt_of_le_of_lt Nat.and_le_left hy
  have e1 := Nat.testBit_two_pow_mul_add q (show y < 2 ^ 8 from hy) j
  have e2 := Nat.testBit_two_pow_mul_add b (show a < 2 ^ 8 from ha) j
  have e3 := Nat.testBit_two_pow_mul_add (q &&& b) h1 j
  simp only [show (2 : Nat) ^ 8 = 256 from rfl] at e1 e2 e3
  rw [Nat.testBit_and, e1, e2, e3]
  split <;> simp
/-- A byte, n times. -/
def mk8 (a : Nat) : Nat → Nat
  | 0 => 0
  | n + 1 => 256 * mk8 a n + a
/-- A function of each byte. -/
def byt (f : Nat → Nat) : Nat → Nat → Nat
  | 0, _ => 0
  | n + 1, x => 256 * byt f n (x / 256) + f (x % 256)
theorem byt_comp {f g : Nat → Nat} (hf : ∀ y, y < 256 → f y < 256) : ∀ (n x : Nat), byt g n (byt f n x) = byt (fun y => g (f y)) n x
  | 0, _ => rfl
  | n + 1, x => by
    have h := hf (x % 256) (Nat.mod_lt _ (by omega))
    simp only [byt]
    rw [show (256 * byt f n (x / 256) + f (x % 256)) / 256 = byt f n (x / 256) by omega, show (256 * byt f n (x / 256) + f (x % 256)) % 256 = f (x % 256) by omega, byt_comp hf n]
def p1 (y : Nat) : Nat := ((y / 2) &&& 0x55) + (y &&& 0x55)
def p2 (y : Nat) : Nat := ((y / 4) &&& 0x33) + (y &&& 0x33)
def p3 (y : Nat) : Nat := (y / 16 + y) &&& 0x0f
theorem p1_lt : ∀ y, y < 256 → p1 y < 256 := by decide +kernel
theorem p2_lt : ∀ y, y < 256 → p2 y < 256 := by decide +kernel
theorem st1 : ∀ (n x : Nat), x < 256 ^ n → ((x / 2) &&& mk8 0x55 n) + (x &&& mk8 0x55 n) = byt p1 n x
  | 0, x, h => by simp [mk8, byt]
  | n + 1, x, h => by
    have hq : x / 256 < 256 ^ n := by rw [Nat.pow_succ] at h; omega
    have hy : x % 256 < 256 := Nat.mod_lt _ (by omega)
    have ih := st1 n (x / 256) hq
    have e1 : x / 2 = 256 * (x / 256 / 2) + (x / 256 % 2 * 128 + x % 256 / 2) := by omega
    have e2 : x = 256 * (x / 256) + x % 256 := by omega
    have key : ∀ b, b < 2 → ∀ y, y < 256 → (b * 128 + y / 2) &&& 0x55 = (y / 2) &&& 0x55 := by decide +kernel
    simp only [mk8, byt]
    rw [e1, and_byte (by omega) (by omega), key _ (Nat.mod_lt _ (by omega)) _ hy]
    have e3 : x &&& 256 * mk8 0x55 n + 0x55 = 256 * (x / 256 &&& mk8 0x55 n) + (x % 256 &&& 0x55) := by
      conv => lhs; rw [e2]
      exact and_byte hy (by omega)
    rw [e3, p1]; omega
theorem st2 : ∀ (n x : Nat), x < 256 ^ n → ((x / 4) &&& mk8 0x33 n) + (x &&& mk8 0x33 n) = byt p2 n x
  | 0, x, h => by simp [mk8, byt]
  | n + 1, x, h => by
    have hq : x / 256 < 256 ^ n := by rw [Nat.pow_succ] at h; omega
    have hy : x % 256 < 256 := Nat.mod_lt _ (by omega)
    have ih := st2 n (x / 256) hq
    have e1 : x / 4 = 256 * (x / 256 / 4) + (x / 256 % 4 * 64 + x % 256 / 4) := by omega
    have e2 : x = 256 * (x / 256) + x % 256 := by omega
    have key : ∀ b, b < 4 → ∀ y, y < 256 → (b * 64 + y / 4) &&& 0x33 = (y / 4) &&& 0x33 := by decide +kernel
    simp only [mk8, byt]
    rw [e1, and_byte (by omega) (by omega), key _ (Nat.mod_lt _ (by omega)) _ hy]
    have e3 : x &&& 256 * mk8 0x33 n + 0x33 = 256 * (x / 256 &&& mk8 0x33 n) + (x % 256 &&& 0x33) := by
      conv => lhs; rw [e2]
      exact and_byte hy (by omega)
    rw [e3, p2]; omega
/-- Both halves of each byte are at most 4. -/
def lowB : Nat → Nat → Prop
  | 0, _ => True
  | n + 1, x => x % 256 % 16 ≤ 4 ∧ x % 256 / 16 ≤ 4 ∧ lowB n (x / 256)
theorem st3 : ∀ (n x : Nat), x < 256 ^ n → lowB n x → (x / 16 + x) &&& mk8 0x0f n = byt p3 n x
  | 0, x, h, _ => by simp [mk8, byt]
  | n + 1, x, h, hl => by
    have hq : x / 256 < 256 ^ n := by rw [Nat.pow_succ] at h; omega
    have hy : x % 256 < 256 := Nat.mod_lt _ (by omega)
    obtain ⟨l1, l2, l3⟩ := hl
    have ih := st3 n (x / 256) hq l3
    have hb : x / 256 % 16 ≤ 4 := by
      cases n with
      | zero => simp at hq; omega
      | succ n => have := l3.1; omega
    have e1 : x / 16 + x = 256 * (x / 256 / 16 + x / 256) + (x / 256 % 16 * 16 + x % 256 / 16 + x % 256) := by omega
    have key : ∀ b, b < 5 → ∀ y, y < 256 → (b * 16 + y / 16 + y) &&& 0x0f = (y / 16 + y) &&& 0x0f := by decide +kernel
    simp only [mk8, byt]
    rw [e1, and_byte (by omega) (by omega), key _ (by omega) _ hy, ih, p3]
theorem lowB_byt {f : Nat → Nat} (hf : ∀ y, y < 256 → f y % 16 ≤ 4 ∧ f y / 16 ≤ 4) : ∀ (n x : Nat), lowB n (byt f n x)
  | 0, _ => trivial
  | n + 1, x => by
    have h := hf (x % 256) (Nat.mod_lt _ (by omega))
    have h2 : f (x % 256) < 256 := by omega
    refine ⟨?_, ?_, ?_⟩
    · simp only [byt]; rw [show (256 * byt f n (x / 256) + f (x % 256)) % 256 = f (x % 256) by omega]; exact h.1
    · simp only [byt]; rw [show (256 * byt f n (x / 256) + f (x % 256)) % 256 = f (x % 256) by omega]; exact h.2
    · simp only [byt]; rw [show (256 * byt f n (x / 256) + f (x % 256)) / 256 = byt f n (x / 256) by omega]; exact lowB_byt hf n _
theorem byt_lt {f : Nat → Nat} (hf : ∀ y, y < 256 → f y < 256) : ∀ (n x : Nat), byt f n x < 256 ^ n
  | 0, _ => by simp [byt]
  | n + 1, x => by
    have h := hf (x % 256) (Nat.mod_lt _ (by omega))
    have ih := byt_lt hf n (x / 256)
    simp only [byt]
    rw [Nat.pow_succ]; omega
def popB (y : Nat) : Nat := ((List.range 8).filter fun i => y.testBit i).length
theorem popB_eq : ∀ y, y < 256 → p3 (p2 (p1 y)) = popB y := by decide +kernel
theorem popB_le : ∀ y, y < 256 → popB y ≤ 8 := by decide +kernel
theorem p12_low : ∀ y, y < 256 → p2 (p1 y) % 16 ≤ 4 ∧ p2 (p1 y) / 16 ≤ 4 := by decide +kernel
theorem byt_congr {f g : Nat → Nat} (h : ∀ y, y < 256 → f y = g y) : ∀ (n x : Nat), byt f n x = byt g n x
  | 0, _ => rfl
  | n + 1, x => by simp only [byt, byt_congr h n, h _ (Nat.mod_lt _ (by omega))]
/-- The three first steps. -/
theorem steps3 {x : Nat} (hx : x < 256 ^ 8) : let a := ((x / 2) &&& mk8 0x55 8) + (x &&& mk8 0x55 8); let b := ((a / 4) &&& mk8 0x33 8) + (a &&& mk8 0x33 8); (a < 256 ^ 8 ∧ b < 256 ^ 8 ∧ lowB 8 b) ∧ (b / 16 + b) &&& mk8 0x0f 8 = byt popB 8 x := by
  intro a b
  have ea : a = byt p1 8 x := st1 8 x hx
  have ha : a < 256 ^ 8 := by rw [ea]; exact byt_lt p1_lt 8 x
  have eb : b = byt p2 8 a := st2 8 a ha
  have hb : b < 256 ^ 8 := by rw [eb]; exact byt_lt p2_lt 8 a
  have eb2 : b = byt (fun y => p2 (p1 y)) 8 x := by rw [eb, ea]; exact byt_comp p1_lt 8 x
  have hl : lowB 8 b := by rw [eb2]; exact lowB_byt p12_low 8 x
  refine ⟨⟨ha, hb, hl⟩, ?_⟩
  rw [st3 8 b hb hl, eb2, byt_comp (fun y hy => p2_lt _ (p1_lt y hy))]
  exact byt_congr popB_eq 8 x
/-- All bits counted. -/
def popN (x m : Nat) : Nat := ((List.range m).filter fun i => x.testBit i).length
theorem popN_8 (x n : Nat) : popN x (8 * (n + 1)) = popB (x % 256) + popN (x / 256) (8 * n) := by
  unfold popN popB
  rw [show 8 * (n + 1) = 8 + 8 * n by omega, List.range_add, List.filter_append, List.length_append, List.filter_map, List.length_map]
  congr 1
  · congr 1
    refine List.filter_congr fun i hi => ?_
    have hi' : i < 8 := by simpa using hi
    rw [show x % 256 = x % 2 ^ 8 from rfl, Nat.testBit_mod_two_pow]; simp [hi']
  · congr 1
    refine List.filter_congr fun i _ => ?_
    simp only [Function.comp]
    rw [show x / 256 = x / 2 ^ 8 from rfl, Nat.testBit_div_two_pow, Nat.add_comm]
theorem div8 {z A q : Nat} (h : z = 256 * A + q) (hq : q < 256) : z / 2 ^ 8 = A := by omega
theorem div16 {z A q : Nat} (h : z = 65536 * A + q) (hq : q < 65536) : z / 2 ^ 16 = A := by omega
theorem div32 {z A q : Nat} (h : z = 4294967296 * A + q) (hq : q < 4294967296) : z / 2 ^ 32 = A := by omega
theorem mod7 {z A q : Nat} (h : z = 128 * A + q) (hq : q < 128) : z % 128 = q := by omega
theorem last_num {z A1 A2 A3 A4 A5 A6 q0 q1 q2 q3 q4 q5 q6 q7 : Nat} (h0 : z = 256 * A1 + q0) (h1 : A1 = 256 * A2 + q1) (h2 : A2 = 256 * A3 + q2) (h3 : A3 = 256 * A4 + q3) (h4 : A4 = 256 * A5 + q4) (h5 : A5 = 256 * A6 + q5) (h6 : A6 = 256 * q7 + q6)
    (b0 : q0 ≤ 8) (b1 : q1 ≤ 8) (b2 : q2 ≤ 8) (b3 : q3 ≤ 8) (b4 : q4 ≤ 8) (b5 : q5 ≤ 8) (b6 : q6 ≤ 8) (b7 : q7 ≤ 8) :
    (z + z / 2 ^ 8 < 2 ^ 64) ∧ (z + z / 2 ^ 8 + (z + z / 2 ^ 8) / 2 ^ 16 < 2 ^ 64) ∧
    (z + z / 2 ^ 8 + (z + z / 2 ^ 8) / 2 ^ 16 + (z + z / 2 ^ 8 + (z + z / 2 ^ 8) / 2 ^ 16) / 2 ^ 32 < 2 ^ 64) ∧
    (z + z / 2 ^ 8 + (z + z / 2 ^ 8) / 2 ^ 16 + (z + z / 2 ^ 8 + (z + z / 2 ^ 8) / 2 ^ 16) / 2 ^ 32) % 128 = q0 + (q1 + (q2 + (q3 + (q4 + (q5 + (q6 + q7)))))) := by
  rw [div8 h0 (by omega)]
  have e1 : z + A1 = 65536 * (A2 + A3) + (256 * (q1 + q2) + (q0 + q1)) := by rw [h0, h1, h2]; omega
  rw [div16 e1 (by omega)]
  have e2 : z + A1 + (A2 + A3) = 4294967296 * (A4 + A5 + (A6 + q7)) + (16777216 * (q3 + q4 + q5 + q6) + 65536 * (q2 + q3 + q4 + q5) + 256 * (q1 + q2 + q3 + q4) + (q0 + q1 + q2 + q3)) := by rw [e1, h2, h3, h4, h5, h6]; omega
  rw [div32 e2 (by omega)]
  have e3 : z + A1 + (A2 + A3) + (A4 + A5 + (A6 + q7)) = 128 * (33554432 * (A4 + A5 + (A6 + q7)) + (131072 * (q3 + q4 + q5 + q6) + 512 * (q2 + q3 + q4 + q5) + 2 * (q1 + q2 + q3 + q4)) + (2 * (A5 + A6) + 2 * q7)) + (q0 + (q1 + (q2 + (q3 + (q4 + (q5 + (q6 + q7))))))) := by rw [e2, h4, h5, h6]; omega
  have hA : A6 ≤ 2056 := by omega
  have hA5 : A5 ≤ 526344 := by omega
  have hA4 : A4 ≤ 134744072 := by omega
  refine ⟨by omega, by omega, by omega, mod7 e3 (by omega)⟩
theorem last_steps {x : Nat} : let z := byt popB 8 x; (z + z / 2 ^ 8 < 2 ^ 64) ∧ (z + z / 2 ^ 8 + (z + z / 2 ^ 8) / 2 ^ 16 < 2 ^ 64) ∧
    (z + z / 2 ^ 8 + (z + z / 2 ^ 8) / 2 ^ 16 + (z + z / 2 ^ 8 + (z + z / 2 ^ 8) / 2 ^ 16) / 2 ^ 32 < 2 ^ 64) ∧
    (z + z / 2 ^ 8 + (z + z / 2 ^ 8) / 2 ^ 16 + (z + z / 2 ^ 8 + (z + z / 2 ^ 8) / 2 ^ 16) / 2 ^ 32) % 128 = popN x 64 := by
  intro z
  have hp : popN x 64 = popB (x % 256) + (popB (x / 256 % 256) + (popB (x / 256 / 256 % 256) + (popB (x / 256 / 256 / 256 % 256) + (popB (x / 256 / 256 / 256 / 256 % 256) + (popB (x / 256 / 256 / 256 / 256 / 256 % 256) + (popB (x / 256 / 256 / 256 / 256 / 256 / 256 % 256) + popB (x / 256 / 256 / 256 / 256 / 256 / 256 / 256 % 256))))))) := by
    rw [show (64 : Nat) = 8 * (7 + 1) from rfl, popN_8, popN_8, popN_8, popN_8, popN_8, popN_8, popN_8, popN_8]; rfl
  rw [hp]
  have hb : ∀ y, popB (y % 256) ≤ 8 := fun y => popB_le _ (Nat.mod_lt _ (by omega))
  refine last_num (A1 := byt popB 7 (x / 256)) (A2 := byt popB 6 (x / 256 / 256)) (A3 := byt popB 5 (x / 256 / 256 / 256)) (A4 := byt popB 4 (x / 256 / 256 / 256 / 256)) (A5 := byt popB 3 (x / 256 / 256 / 256 / 256 / 256)) (A6 := byt popB 2 (x / 256 / 256 / 256 / 256 / 256 / 256))
    rfl rfl rfl rfl rfl rfl ?_ (hb _) (hb _) (hb _) (hb _) (hb _) (hb _) (hb _) (hb _)
  simp only [byt, Nat.mul_zero, Nat.zero_add]
/-- How many cells a set has. -/
def popU (s : BitVec 64) : Nat := ((List.range 64).filter fun i => s.getLsbD i).length
theorem popU_eq (s : BitVec 64) : popU s = popN s.toNat 64 := rfl
theorem popU_le (s : BitVec 64) : popU s ≤ 64 := by
  unfold popU; exact Nat.le_trans (List.length_filter_le _ _) (by simp)
theorem Rep.pop {X Y Z : Int} {s : BitVec 64} {L : List C} (h : Rep X Y Z s L) : popU s = L.length := by
  rw [← h.cells]
  unfold popU cellsOf idsOf
  rw [List.length_map]
  have hv := vol_le h.valid.box
  have hr : List.range 64 = List.range (vol X Y Z) ++ (List.range (64 - vol X Y Z)).map (vol X Y Z + ·) := by rw [← List.range_add]; congr 1; omega
  rw [hr, List.filter_append, List.length_append]
  have : (((List.range (64 - vol X Y Z)).map (vol X Y Z + ·)).filter fun i => s.getLsbD i) = [] := by
    rw [List.filter_eq_nil_iff]
    intro j hj g
    obtain ⟨k, hk, rfl⟩ := List.mem_map.mp hj
    have hk' : k < 64 - vol X Y Z := by simpa using hk
    have := h.top _ (by omega) g
    omega
  rw [this]; simp
end Go.Sep
