/- clear; what is left when some numbers are deleted in place; slices shorter than their block. -/
import Derived.Test.YtkfhblkjllbejaaOrders
namespace Go.Sep
open Go
set_option linter.unusedVariables false
set_option linter.unusedSimpArgs false

variable {P : Program} {ts : Temps} {H : Heap} {n : Nat}
theorem e_clear {t e : TypeId} {x : Operand} {b l h : Nat} {cs : List Value} {z : Value} {sz by' by'' : Nat} {zz : List Value} {g g' : Bool} {d' : TD}
    (ht : ti P t = some ⟨.slice e, sz, by', zz, g⟩) (hE : ti P e = some ⟨d', 1, by'', [z], g'⟩) (hz : konst0 z = true) (hx : ev ts x = some (subV b 1 l h)) (hH : H b = some (.cells false cs)) (hlh : l ≤ h) (hl : h ≤ cs.length) :
    E P (.call { callee := .builtin .clear, args := #[x], argTypes := #[t] }) ts H n (.tuple #[]) (H.set b (.cells false (cs.take l ++ List.replicate (h - l) z ++ cs.drop h))) n := by
  refine ⟨?_, rfl⟩
  simp only [cop, cBuiltin, hx]
  by_cases h0 : h = l
  · subst h0
    have e1 : subV b 1 h h = .slice none 0 2 := by simp [subV]
    rw [e1]
    have e2 : cClear P #[t] H (.slice none 0 2) = some H := by simp [cClear, ht]
    rw [e2]
    have e3 : H.set b (.cells false (cs.take h ++ List.replicate (h - h) z ++ cs.drop h)) = H := by
      funext y
      unfold Heap.set
      split
      · rename_i e; subst e; rw [hH]; simp
      · rfl
    rw [e3]
  · have e1 : subV b 1 l h = .slice (some ⟨b, l, none⟩) (h - l) 1 := by simp [subV, h0]
    rw [e1]
    have e2 : cClear P #[t] H (.slice (some ⟨b, l, none⟩) (h - l) 1) = some (H.set b (.cells false (cs.take l ++ List.replicate (h - l) z ++ cs.drop h))) := by
      simp only [cClear, ht, hE, hH, List.getElem?_toArray, List.getElem?_cons_zero]
      rw [if_pos ⟨trivial, hz, by omega, trivial⟩, putC_eq (by simp; omega)]
      simp only [List.length_replicate]
      rw [show l + (h - l) = h by omega]
    rw [e2]

/-- What stays of the first numbers, when some are deleted. -/
def keptN (f : Int → Bool) (zs : List Int) (i : Nat) : List Int := (zs.take i).filter fun z => !f z
def kept (f : Int → Bool) (zs : List Int) : List Int := zs.filter fun z => !f z
theorem kept_T {f : Int → Bool} {zs : List Int} {i : Nat} (hi : i < zs.length) (h : f (at1 zs i) = true) : keptN f zs (i + 1) = keptN f zs i := by
  unfold keptN; rw [take_succ1 hi, List.filter_append]; simp only [List.filter, h, Bool.not_true, List.append_nil]
theorem kept_F {f : Int → Bool} {zs : List Int} {i : Nat} (hi : i < zs.length) (h : f (at1 zs i) = false) : keptN f zs (i + 1) = keptN f zs i ++ [at1 zs i] := by
  unfold keptN; rw [take_succ1 hi, List.filter_append]; simp only [List.filter, h, Bool.not_false]
theorem kept_len (f : Int → Bool) (zs : List Int) (i : Nat) : (keptN f zs i).length ≤ i := by
  unfold keptN; exact Nat.le_trans (List.length_filter_le _ _) (by simp; omega)
theorem kept_end (f : Int → Bool) {zs : List Int} {i : Nat} (h : i = zs.length) : keptN f zs i = kept f zs := by subst h; simp [keptN, kept]
/-- The row while numbers are deleted. -/
def delR (f : Int → Bool) (zs : List Int) (i : Nat) : List Int := keptN f zs i ++ zs.drop (keptN f zs i).length
theorem delR_len (f : Int → Bool) (zs : List Int) {i : Nat} (h : i ≤ zs.length) : (delR f zs i).length = zs.length := by
  have := kept_len f zs i
  simp [delR]; omega
theorem delR_zero {f : Int → Bool} {zs : List Int} {i : Nat} (hi : i ≤ zs.length) (hq : ∀ j, j < i → f (at1 zs j) = false) : keptN f zs i = zs.take i := by
  induction i with
  | zero => simp [keptN]
  | succ i ih => rw [kept_F (by omega) (hq i (by omega)), ih (by omega) (fun j hj => hq j (by omega)), take_succ1 (by omega)]
theorem delR_at {f : Int → Bool} {zs : List Int} {i j : Nat} (hi : i ≤ j) (hj : j < zs.length) : at1 (delR f zs i) j = at1 zs j := by
  have := kept_len f zs i
  simp only [at1, delR, List.getD_eq_getElem?_getD]
  rw [List.getElem?_append_right (by omega), List.getElem?_drop, show (keptN f zs i).length + (j - (keptN f zs i).length) = j by omega]
theorem delR_T {f : Int → Bool} {zs : List Int} {i : Nat} (hi : i < zs.length) (h : f (at1 zs i) = true) : delR f zs (i + 1) = delR f zs i := by unfold delR; rw [kept_T hi h]
theorem delR_F {f : Int → Bool} {zs : List Int} {i : Nat} (hi : i < zs.length) (h : f (at1 zs i) = false) : (delR f zs i).set (keptN f zs i).length (at1 zs i) = delR f zs (i + 1) := by
  have := kept_len f zs i
  unfold delR
  rw [kept_F hi h, List.set_append_right _ _ (Nat.le_refl _), Nat.sub_self, List.length_append, List.append_assoc, List.drop_eq_getElem_cons (show (keptN f zs i).length < zs.length by omega)]
  rfl
theorem ints_set1 {zs : List Int} {k : Nat} {z : Int} : (ints zs).set (0 + k * 1) (.int .i64 z) = ints (zs.set k z) := by
  rw [Nat.zero_add, Nat.mul_one]; simp [ints, List.map_set]
def padI (f : Int → Bool) (zs : List Int) : List Int := List.replicate (zs.length - (kept f zs).length) 0
theorem delR_fin {f : Int → Bool} {zs : List Int} {i : Nat} (h : i = zs.length) : (ints (delR f zs i)).take (kept f zs).length ++ List.replicate (zs.length - (kept f zs).length) (.int .i64 0) ++ (ints (delR f zs i)).drop zs.length = ints (kept f zs ++ padI f zs) := by
  have h1 := delR_len f zs (i := i) (by omega)
  rw [List.drop_of_length_le (by rw [ints_length]; omega), List.append_nil]
  unfold delR padI
  rw [kept_end f h]
  simp [ints, List.map_append]
theorem kept_all {f : Int → Bool} {zs : List Int} (hq : ∀ j, j < zs.length → f (at1 zs j) = false) : kept f zs = zs := by
  unfold kept
  rw [List.filter_eq_self]
  intro z hz
  obtain ⟨j, hj, rfl⟩ := mem_at1 hz
  rw [hq j hj]; rfl
theorem kept_le (f : Int → Bool) (zs : List Int) : (kept f zs).length ≤ zs.length := List.length_filter_le _ _
/-- A slice over the first cells of a block; it may be the empty one. -/
def SV (b m : Nat) (v : Value) : Prop := v = .slice (some ⟨b, 0, none⟩) m 1 ∨ (m = 0 ∧ v = .slice none 0 2)
/-- The slice that is left when numbers are deleted. -/
def delE (f : Int → Bool) (zs : List Int) : Prop := (kept f zs).length = 0 ∧ ¬ (kept f zs).length = zs.length
instance (f : Int → Bool) (zs : List Int) : Decidable (delE f zs) := by unfold delE; infer_instance
def delV (b : Nat) (f : Int → Bool) (zs : List Int) : Value := .slice (if delE f zs then none else some ⟨b, 0, none⟩) (kept f zs).length (if delE f zs then 2 else 1)
theorem delV_e {b : Nat} {f : Int → Bool} {zs : List Int} (h : delE f zs) : delV b f zs = .slice none 0 2 := by unfold delV; rw [if_pos h, if_pos h, h.1]
theorem delV_n {b : Nat} {f : Int → Bool} {zs : List Int} (h : ¬ delE f zs) : delV b f zs = .slice (some ⟨b, 0, none⟩) (kept f zs).length 1 := by unfold delV; rw [if_neg h, if_neg h]
theorem delV_sv (b : Nat) (f : Int → Bool) (zs : List Int) : SV b (kept f zs).length (delV b f zs) := by
  by_cases h : delE f zs
  · exact .inr ⟨h.1, delV_e h⟩
  · exact .inl (delV_n h)
theorem delV_all {b : Nat} {f : Int → Bool} {zs : List Int} (h : kept f zs = zs) : delV b f zs = .slice (some ⟨b, 0, none⟩) zs.length 1 := by
  rw [delV_n (fun e => e.2 (by rw [h])), h]
theorem kept_lt {f : Int → Bool} {zs : List Int} {i : Nat} (hi : i < zs.length) (h : f (at1 zs i) = true) : (kept f zs).length < zs.length := by
  unfold kept
  exact List.length_filter_lt_length_iff_exists.mpr ⟨_, at1_mem hi, by rw [h]; simp⟩
theorem delV_some {b : Nat} {f : Int → Bool} {zs : List Int} {i : Nat} (hi : i < zs.length) (h : f (at1 zs i) = true) : delV b f zs = subV b 1 0 (kept f zs).length := by
  have := kept_lt hi h
  by_cases e : (kept f zs).length = 0
  · rw [delV_e ⟨e, by omega⟩, e]; rfl
  · rw [delV_n (fun g => e g.1)]; simp [subV, e]
theorem delV_ren (b : Nat) (f : Int → Bool) (zs : List Int) (ρ : Nat → Nat) : renT ρ (delV b f zs) = delV (ρ b) f zs := by
  by_cases h : delE f zs
  · rw [delV_e h, delV_e h]; rfl
  · rw [delV_n h, delV_n h]; rfl
theorem delV_renV (b : Nat) (f : Int → Bool) (zs : List Int) (ρ : Nat → Nat) : renV ρ (delV b f zs) = delV (ρ b) f zs := delV_ren b f zs ρ
theorem subV_tup (b es l h : Nat) : isTuple (subV b es l h) = false := by unfold subV; split <;> rfl
theorem delV_tup (b : Nat) (f : Int → Bool) (zs : List Int) : isTuple (delV b f zs) = false := rfl
theorem delV_lt {b n : Nat} (h : b < n) (f : Int → Bool) (zs : List Int) : ltT n (delV b f zs) = true := by
  by_cases g : delE f zs
  · rw [delV_e g]; rfl
  · rw [delV_n g]; exact decide_eq_true h
theorem delV_ltV {b n : Nat} (h : b < n) (f : Int → Bool) (zs : List Int) : ltV n (delV b f zs) = true := delV_lt h f zs
theorem at1_app {xs pad : List Int} {i : Nat} (h : i < xs.length) : at1 (xs ++ pad) i = at1 xs i := by
  simp only [at1, List.getD_eq_getElem?_getD, List.getElem?_append_left h]
theorem idxI_none {f : Int → Bool} {zs : List Int} (h : idxI f zs = -1) : ∀ j, j < zs.length → f (at1 zs j) = false := fun j hj => by
  cases g : f (at1 zs j) with
  | false => rfl
  | true =>
    unfold idxI at h
    rw [if_pos (List.any_eq_true.mpr ⟨_, at1_mem hj, g⟩)] at h
    omega
theorem idxI_some {f : Int → Bool} {zs : List Int} (h : ¬ idxI f zs = -1) : ∃ i : Nat, i < zs.length ∧ f (at1 zs i) = true ∧ (∀ j, j < i → f (at1 zs j) = false) ∧ idxI f zs = (i : Int) := by
  unfold idxI at h ⊢
  by_cases g : zs.any f = true
  · rw [if_pos g]
    have hlt : zs.findIdx f < zs.length := List.findIdx_lt_length.mpr (List.any_eq_true.mp g)
    refine ⟨zs.findIdx f, hlt, ?_, fun j hj => ?_, rfl⟩
    · have := List.findIdx_getElem (w := hlt)
      simpa only [at1, List.getD_eq_getElem?_getD, List.getElem?_eq_getElem hlt, Option.getD_some] using this
    · have := List.not_of_lt_findIdx hj
      have hj2 : j < zs.length := by omega
      simpa only [at1, List.getD_eq_getElem?_getD, List.getElem?_eq_getElem hj2, Option.getD_some] using this
  · rw [if_neg g] at h; exact absurd rfl h
theorem delR_init {f : Int → Bool} {zs : List Int} {i : Nat} (hi : i < zs.length) (h : f (at1 zs i) = true) (hq : ∀ j, j < i → f (at1 zs j) = false) : (keptN f zs (i + 1)).length = i ∧ delR f zs (i + 1) = zs := by
  have e : keptN f zs (i + 1) = zs.take i := (kept_T hi h).trans (delR_zero (by omega) hq)
  have e2 : (zs.take i).length = i := by simp; omega
  unfold delR
  rw [e, e2]
  exact ⟨rfl, List.take_append_drop i zs⟩
theorem padI_all {f : Int → Bool} {zs : List Int} (h : kept f zs = zs) : kept f zs ++ padI f zs = zs := by
  unfold padI; rw [h]; simp
theorem markV_pad (k : Int) (xs pad : List Int) : markV k xs.length (ints (xs ++ pad)) = ints (upto k xs.length ++ pad) := by
  simp [markV, upto, ints, List.map_append]
theorem topB_one {X Y Z : Int} {cs : List C} {p s : Int} (h : isHeap X Y Z cs = true) (hp : 0 ≤ p ∧ p < X * Y) (hs : 0 ≤ s) : topB X Y Z cs s [p] = true := by
  simp [topB, h, hs, within]; omega
theorem topB_one_no {X Y Z : Int} {cs : List C} {p s : Int} (h : (isHeap X Y Z cs && within p 0 (X * Y - 1) && decide (0 ≤ s)) = false) : topB X Y Z cs s [p] = false := by
  cases h1 : isHeap X Y Z cs <;> cases h2 : within p 0 (X * Y - 1) <;> simp_all [topB]
def stF (hs : List Int) (p s q : Int) : Bool := decide (s < max (at1 hs p.toNat - at1 hs q.toNat) (at1 hs q.toNat - at1 hs p.toNat))
theorem stF_F {hs : List Int} {p s q : Int} (h : max (at1 hs q.toNat - at1 hs p.toNat) (at1 hs p.toNat - at1 hs q.toNat) ≤ s) : stF hs p s q = false := by unfold stF; exact decide_eq_false (by omega)
theorem stF_T {hs : List Int} {p s q : Int} (h : ¬ max (at1 hs q.toNat - at1 hs p.toNat) (at1 hs p.toNat - at1 hs q.toNat) ≤ s) : stF hs p s q = true := by unfold stF; exact decide_eq_true (by omega)
end Go.Sep
