/- append of any slice to an owned row; parts of slices. -/
import Derived.Test.YtkfhblkjllbejaaBits
namespace Go.Sep
open Go
set_option linter.unusedVariables false
set_option linter.unusedSimpArgs false

variable {P : Program} {N : Nat} {ops : Array Oper} {r : List Oper} {K : St → Prop} {ts : Temps} {H : Heap} {n : Nat}

/-- s[l:h] -/
def subV (b es l h : Nat) : Value := if h = l then .slice none 0 2 else .slice (some ⟨b, l * es, none⟩) (h - l) es

theorem take_subV {b es l h : Nat} {ro : Bool} {cs : List Value} (hH : H b = some (.cells ro cs)) (hl : l ≤ h) (hh : h * es ≤ cs.length) : cTake H es (subV b es l h) = some (h - l, (cs.drop (l * es)).take ((h - l) * es)) := by
  unfold subV
  split
  · rename_i e; subst e; simp [cTake]
  · rename_i e
    have h0 : h - l ≠ 0 := by omega
    unfold cTake
    split
    · rename_i heq
      simp only [Value.slice.injEq] at heq
      omega
    · rename_i b' m e' _ heq
      simp only [Value.slice.injEq, Option.some.injEq] at heq
      obtain ⟨rfl, rfl, rfl⟩ := heq
      simp only [hH]
      rw [if_pos (by rw [← Nat.add_mul]; exact Nat.le_trans (Nat.mul_le_mul_right _ (by omega)) hh)]
    · rename_i h1 h2
      exact absurd rfl (h2 _ _ _)

theorem take_row {b es m e' : Nat} {sp : Option Nat} {ro : Bool} {vs : List Value} (hH : H b = some (.cells ro vs)) (hl : vs.length = m * es) : cTake H es (.slice (some ⟨b, 0, sp⟩) m e') = some (m, vs) := by
  rcases Nat.eq_zero_or_pos m with h0 | h0
  · subst h0
    have : vs = [] := List.eq_nil_of_length_eq_zero (by omega)
    subst this; rfl
  · obtain ⟨k, rfl⟩ : ∃ k, m = k + 1 := ⟨m - 1, by omega⟩
    simp only [cTake, hH]
    rw [if_pos (by omega), List.drop_zero, List.take_of_length_le (by omega)]
theorem take_subHi {b k : Nat} {ro : Bool} {cs : List C} (hH : H b = some (.cells ro (flat cs))) (hk : k ≤ cs.length) : cTake H 3 (subV b 3 0 k) = some (k, flat (cs.take k)) := by
  rw [take_subV hH (by omega) (by rw [flat_length]; omega)]
  simp only [Nat.zero_mul, List.drop_zero, Nat.sub_zero, flat_take]
theorem take_subLo {b k m : Nat} {ro : Bool} {cs : List C} (hH : H b = some (.cells ro (flat cs))) (hm : m = cs.length) (hk : k ≤ m) : cTake H 3 (subV b 3 k m) = some (m - k, flat (cs.drop k)) := by
  rw [take_subV hH hk (by rw [flat_length, hm]; omega), flat_drop, flat_take, List.take_of_length_le (by simp; omega)]

theorem e_sliceHi {t e : TypeId} {x y : Operand} {b m : Nat} {sp : Option Nat} {q : IntKind} {j : Int} {sz by' : Nat} {z : List Value} {g : Bool} {d' : TD} {sz' by'' : Nat} {z' : List Value} {g' : Bool} (a : Nat)
    (ht : ti P t = some ⟨.slice e, sz, by', z, g⟩) (hE : ti P e = some ⟨d', sz', by'', z', g'⟩) (hx : ev ts x = some (.slice (some ⟨b, 0, sp⟩) m sz')) (hy : ev ts y = some (.int q j)) (hj : j = (a : Int)) (ha : a ≤ m) :
    E P (.slice t x none (some y) none) ts H n (subV b sz' 0 a) H n := by
  subst hj
  refine ⟨?_, rfl⟩
  simp only [cop, evO, hy, ev1, hx, cSlice, ht, hE, if_true]
  simp only [cBounds]
  rw [if_pos ⟨by omega, by omega⟩]
  by_cases h0 : a = 0 <;> simp [subV, withH, h0]
theorem e_sliceLo {t e : TypeId} {x y : Operand} {b m : Nat} {sp : Option Nat} {q : IntKind} {j : Int} {sz by' : Nat} {z : List Value} {g : Bool} {d' : TD} {sz' by'' : Nat} {z' : List Value} {g' : Bool} (a : Nat)
    (ht : ti P t = some ⟨.slice e, sz, by', z, g⟩) (hE : ti P e = some ⟨d', sz', by'', z', g'⟩) (hx : ev ts x = some (.slice (some ⟨b, 0, sp⟩) m sz')) (hy : ev ts y = some (.int q j)) (hj : j = (a : Int)) (ha : a ≤ m) :
    E P (.slice t x (some y) none none) ts H n (subV b sz' a m) H n := by
  subst hj
  refine ⟨?_, rfl⟩
  simp only [cop, evO, hy, ev1, hx, cSlice, ht, hE, if_true]
  simp only [cBounds]
  rw [if_pos ⟨by omega, by omega⟩]
  by_cases h0 : m = a <;> simp [subV, withH, ha, h0]

theorem app_any {t t1 e e1 : TypeId} {x y : Operand} {b m k es : Nat} {cs xs : List Value} {sv : Value} {sz by' : Nat} {z : List Value} {g : Bool} {sz1 by1 : Nat} {z1 : List Value} {g1 : Bool}
    {d' : TD} {by'' : Nat} {z' : List Value} {g' : Bool} (ht : ti P t = some ⟨.slice e, sz, by', z, g⟩) (ht1 : ti P t1 = some ⟨.slice e1, sz1, by1, z1, g1⟩) (hE : ti P e = some ⟨d', es, by'', z', g'⟩)
    (hx : ev ts x = some (.slice (some ⟨b, 0, none⟩) k es)) (hy : ev ts y = some sv) (hH : H b = some (.cells false cs)) (hT : cTake H es sv = some (m, xs))
    (hk : by'' ≤ 2 ^ 16 ∧ z'.length = es ∧ 0 < es) (hl : cs.length = k * es) (hl1 : xs.length = m * es) (hkm : k + m ≤ 2 ^ 24) (hb : b < n) :
    ∃ b' G n', cop P (.call { callee := .builtin .append, args := #[x, y], argTypes := #[t, t1] }) ts H n = some (.slice (some ⟨b', 0, none⟩) (k + m) es, G, n') ∧
      G b' = some (.cells false (cs ++ xs)) ∧ Keeps [b] n H G ∧ n ≤ n' ∧ b' < n' ∧ (b' = b ∨ n ≤ b') := by
  rcases Nat.eq_zero_or_pos m with h0 | h0
  · subst h0
    have hxs : xs = [] := List.eq_nil_of_length_eq_zero (by omega)
    subst hxs
    refine ⟨b, H, n, ?_, by simpa using hH, Keeps.refl _ _ _, Nat.le_refl _, hb, .inl rfl⟩
    simp only [cop, cBuiltin, hx, hy]
    simp only [cAppend, List.getElem?_toArray, List.getElem?_cons_zero, List.getElem?_cons_succ, ht, ht1, hE]
    rw [if_pos hk]
    simp only [hT, if_true, Nat.add_zero]
  · refine ⟨n, (H.del b).set n (.cells false (cs ++ xs)), n + 1, ?_, look_same, ((Keeps.refl _ _ _).del (.inr (by simp))).set (.inl (Nat.le_refl _)), Nat.le_succ _, Nat.lt_succ_self _, .inr (Nat.le_refl _)⟩
    simp only [cop, cBuiltin, hx, hy]
    simp only [cAppend, List.getElem?_toArray, List.getElem?_cons_zero, List.getElem?_cons_succ, ht, ht1, hE]
    rw [if_pos hk]
    simp only [hT]
    rw [if_neg (by omega)]
    simp only [hH]
    rw [if_pos ⟨trivial, trivial, hl, hkm⟩]

section
variable {t : Tmp} {ty : TypeId} {pos : String} {after : Array Edge} {gd : Option (Nat × Bool)} {c : Go.Call} {b k es : Nat} {cs : List Value}
/-- append, its outcome told by what is known of it. -/
theorem stA (hd : okDst N (some t) = true) (hw : wantC ops ⟨some t, .call c, ty, pos, after, gd⟩ ts = some true) (hc : calleeOf ts (.call c) = none)
    (ha : ∃ b' G n', cop P (.call c) ts H n = some (.slice (some ⟨b', 0, none⟩) k es, G, n') ∧ G b' = some (.cells false cs) ∧ Keeps [b] n H G ∧ n ≤ n' ∧ b' < n' ∧ (b' = b ∨ n ≤ b'))
    (hk : ∀ b' G n', G b' = some (.cells false cs) → Keeps [b] n H G → n ≤ n' → b' < n' → (b' = b ∨ n ≤ b') → wops P N ops r ⟨(t, .slice (some ⟨b', 0, none⟩) k es) :: ts, G, n'⟩ K) :
    wops P N ops (⟨some t, .call c, ty, pos, after, gd⟩ :: r) ⟨ts, H, n⟩ K := by
  obtain ⟨b', G, n', h1, h2, h3, h4, h5, h6⟩ := ha
  exact st hd hw ⟨h1, hc⟩ (hk b' G n' h2 h3 h4 h5 h6)
theorem dA {m j : Nat} {ms : List Nat} {acc : List (Nat × Foot)} (hd : okDst N (some t) = true) (hw : wantC ops ⟨some t, .call c, ty, pos, after, gd⟩ ts = some true) (hc : calleeOf ts (.call c) = none) (hkd : kindOf (.call c) ts = .eff 0 0 [])
    (ha : ∃ b' G n', cop P (.call c) ts (hide (hidden m acc) n H) n = some (.slice (some ⟨b', 0, none⟩) k es, G, n') ∧ G b' = some (.cells false cs) ∧ Keeps [b] n (hide (hidden m acc) n H) G ∧ n ≤ n' ∧ b' < n' ∧ (b' = b ∨ n ≤ b'))
    (hb : b < n) (hu : b ∉ hidden m acc) (hlt : ∀ x ∈ hidden m acc, x < n) (hacc : ∀ n', accOk m (.eff n n' [b]) acc)
    (hk : ∀ b' G n', G b' = some (.cells false cs) → Keeps [b] n H G → n ≤ n' → b' < n' → (b' = b ∨ n ≤ b') → wopsD P N ops r ms (j + 1) ((j, .eff n n' [b]) :: acc) ⟨(t, .slice (some ⟨b', 0, none⟩) k es) :: ts, G, n'⟩ K) :
    wopsD P N ops (⟨some t, .call c, ty, pos, after, gd⟩ :: r) (m :: ms) j acc ⟨ts, H, n⟩ K := by
  obtain ⟨b', G, n', h1, h2, h3, h4, h5, h6⟩ := ha
  simp only [wopsD, hd, hw, hkd, putT]
  refine ⟨trivial, [b], by simpa using ⟨hb, hu⟩, ?_⟩
  simp only [stepOp, hc, h1]
  have hG : ∀ y, y < n → y ∉ [b] → y ∉ hidden m acc → G y = H y := fun y hy hyb hyu => by
    rw [h3 y hy hyb]; unfold hide; rw [if_pos ⟨hy, hyu⟩]
  have hb'u : b' ∉ hidden m acc := fun hh => by
    rcases h6 with e | e
    · exact hu (e ▸ hh)
    · have := hlt _ hh; omega
  refine ⟨h4, hG, hacc n', hk b' _ n' ?_ ?_ h4 h5 h6⟩
  · unfold unhide; rw [if_pos ⟨h5, hb'u⟩]; exact h2
  · intro y hy hyb
    unfold unhide
    split
    · rename_i hh; exact hG y hy hyb hh.2
    · rfl
end

end Go.Sep
