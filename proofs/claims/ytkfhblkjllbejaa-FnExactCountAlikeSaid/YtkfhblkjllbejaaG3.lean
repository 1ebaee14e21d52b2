/- Shared texts of the proofs: Layer, Sky, Sights, Turns, Swit, Clus, Outs, Recs, Maps, Most, Opq, Cnts, Lays, Tabl, Top2. -/
import Derived.Test.YtkfhblkjllbejaaG2
/- Layers: tables of numbers. -/
namespace Go.Sep
open Go
set_option linter.unusedVariables false
set_option linter.unusedSimpArgs false

/-- The cell of a layer. -/
def layC (p : Nat) (k i j : Int) : C := (if p = 0 then k else i, if p = 1 then k else if p = 0 then i else j, if p = 2 then k else j)
theorem lay1 {p : Nat} (hp : p < 3) (k : Int) : [Value.int .i64 0, Value.int .i64 0, Value.int .i64 0].set (0 + p * 1) (.int .i64 k) = tri (if p = 0 then k else 0, if p = 1 then k else 0, if p = 2 then k else 0) := by
  obtain rfl | rfl | rfl : p = 0 ∨ p = 1 ∨ p = 2 := by omega
  all_goals rfl
theorem lay2 {p : Nat} (hp : p < 3) (k i : Int) : (tri (if p = 0 then k else 0, if p = 1 then k else 0, if p = 2 then k else 0)).set (0 + o1 p * 1) (.int .i64 i) = tri (if p = 0 then k else i, if p = 1 then k else if p = 0 then i else 0, if p = 2 then k else 0) := by
  obtain rfl | rfl | rfl : p = 0 ∨ p = 1 ∨ p = 2 := by omega
  all_goals rfl
theorem lay3 {p : Nat} (hp : p < 3) (k i j : Int) : (tri (if p = 0 then k else i, if p = 1 then k else if p = 0 then i else 0, if p = 2 then k else 0)).set (0 + o2 p * 1) (.int .i64 j) = tri (layC p k i j) := by
  obtain rfl | rfl | rfl : p = 0 ∨ p = 1 ∨ p = 2 := by omega
  all_goals rfl
theorem lay_in {X Y Z : Int} {p : Nat} (hp : p < 3) {k i j : Int} (hk : 0 ≤ k ∧ k < ci (X, Y, Z) p) (hi : 0 ≤ i ∧ i < ci (X, Y, Z) (o1 p)) (hj : 0 ≤ j ∧ j < ci (X, Y, Z) (o2 p)) : In X Y Z (layC p k i j) := by
  obtain rfl | rfl | rfl : p = 0 ∨ p = 1 ∨ p = 2 := by omega
  · exact ⟨hk, hi, hj⟩
  · exact ⟨hi, hk, hj⟩
  · exact ⟨hi, hj, hk⟩
def layV (cs : List C) (p : Nat) (k i : Int) (j : Nat) : Int := if layC p k i (j : Int) ∈ cs then 1 else 0
def layN (cs : List C) (p : Nat) (k : Int) (i m : Nat) : List Int := (List.range m).map (layV cs p k (i : Int))
theorem layN_zero (cs : List C) (p : Nat) (k : Int) (i : Nat) : layN cs p k i 0 = [] := rfl
theorem layN_succ (cs : List C) (p : Nat) (k : Int) (i m : Nat) : layN cs p k i (m + 1) = layN cs p k i m ++ [layV cs p k i m] := by simp [layN, List.range_succ]
theorem layN_length (cs : List C) (p : Nat) (k : Int) (i m : Nat) : (layN cs p k i m).length = m := by simp [layN]
theorem layV_yes {cs : List C} {p : Nat} {k i : Int} {j : Nat} (h : layC p k i (j : Int) ∈ cs) : layV cs p k i j = 1 := if_pos h
theorem layV_no {cs : List C} {p : Nat} {k i : Int} {j : Nat} (h : ¬ layC p k i (j : Int) ∈ cs) : layV cs p k i j = 0 := if_neg h
/-- How many numbers the first rows have. -/
def preI (row : Nat → List Int) : Nat → Nat
  | 0 => 0
  | i + 1 => preI row i + (row i).length
theorem preI_bd {row : Nat → List Int} {M : Nat} : ∀ k, (∀ i, i < k → (row i).length ≤ M) → preI row k ≤ k * M
  | 0, _ => by simp [preI]
  | k + 1, h => by
    have h1 := preI_bd k (fun i hi => h i (by omega))
    have h2 := h k (by omega)
    simp only [preI, Nat.succ_mul]
    omega
theorem preI_le {row : Nat → List Int} {k : Nat} : ∀ i, i ≤ k → preI row i ≤ preI row k := by
  induction k with
  | zero =>
    intro i hi
    obtain rfl : i = 0 := by omega
    exact Nat.le_refl _
  | succ k ih =>
    intro i hi
    rcases Nat.lt_or_ge k i with h | h
    · obtain rfl : i = k + 1 := by omega
      exact Nat.le_refl _
    · exact Nat.le_trans (ih i h) (Nat.le_add_right _ _)
def mrkI (z : Int) (row : Nat → List Int) (i : Nat) : List Int := upto (z + ((preI row i : Nat) : Int)) (row i).length
theorem side_get {X Y Z : Int} {p : Nat} (hp : p < 3) : [Value.int .i64 X, Value.int .i64 Y, Value.int .i64 Z][((p : Nat) : Int).toNat * 1]? = some (.int .i64 (ci (X, Y, Z) p)) := by
  obtain rfl | rfl | rfl : p = 0 ∨ p = 1 ∨ p = 2 := by omega
  all_goals rfl
theorem dir_nat {p : Int} (h : within p 0 2 = true) : ∃ q : Nat, p = q ∧ q < 3 := by
  simp [within] at h; exact ⟨p.toNat, by omega, by omega⟩
def layOk (X Y Z : Int) (cs : List C) (p k : Int) : Bool := isHeap X Y Z cs && (within p 0 2 && within k 0 (ci (X, Y, Z) p.toNat - 1))
theorem layOk_no1 {X Y Z : Int} {cs : List C} {p : Nat} {k : Int} (h : layOk X Y Z cs p k = false) (hh : isHeap X Y Z cs = true) (hp : p < 3) : within k 0 (ci (X, Y, Z) p - 1) = false := by
  simp only [layOk, hh, within_dir hp, Bool.true_and, Int.toNat_natCast] at h; exact h
def layRow (X Y Z : Int) (cs : List C) (p : Nat) (k : Int) (i : Nat) : List Int := layN cs p k i (ci (X, Y, Z) (o2 p)).toNat
def layK (X Y Z : Int) (p : Nat) : Nat := (ci (X, Y, Z) (o1 p)).toNat
end Go.Sep
/- Rows of heights, seen from a side. -/
namespace Go.Sep
open Go
set_option linter.unusedVariables false
set_option linter.unusedSimpArgs false

variable {P : Program} {N : Nat} {ts : Temps} {H : Heap} {n : Nat}
/-- In which row a column stands. -/
def wq (Y : Int) (d q : Nat) : Nat := if d = 0 then q % Y.toNat else q / Y.toNat
def rowQ (Y : Int) (d w q : Nat) : List Nat := (List.range q).filter fun i => decide (wq Y d i = w)
def rowF (T : List Int) (Y : Int) (d w q : Nat) : List Int := (rowQ Y d w q).map (at1 T)
def ixD (Y : Int) (d w m : Nat) : Nat := if d = 0 then m * Y.toNat + w else w * Y.toNat + m
def skyN (T : List Int) (Y : Int) (d w m : Nat) : List Int := (List.range m).map fun i => at1 T (ixD Y d w i)
def skyL (X Y Z : Int) (T : List Int) (d w : Nat) : List Int := skyN T Y d w (ci (X, Y, Z) d).toNat
def skyK (X Y Z : Int) (d : Nat) : Nat := (ci (X, Y, Z) (1 - d)).toNat
theorem rowF_zero (T : List Int) (Y : Int) (d w : Nat) : rowF T Y d w 0 = [] := rfl
theorem rowF_T {T : List Int} {Y : Int} {d w q : Nat} (h : wq Y d q = w) : rowF T Y d w (q + 1) = rowF T Y d w q ++ [at1 T q] := by
  unfold rowF rowQ; rw [List.range_succ, List.filter_append]; simp only [List.filter, h, decide_true, List.map_append, List.map_cons, List.map_nil]
theorem rowF_F {T : List Int} {Y : Int} {d w q : Nat} (h : wq Y d q ≠ w) : rowF T Y d w (q + 1) = rowF T Y d w q := by
  unfold rowF rowQ; rw [List.range_succ, List.filter_append]; simp only [List.filter, h, decide_false, List.append_nil]
theorem rowF_len (T : List Int) (Y : Int) (d w q : Nat) : (rowF T Y d w q).length ≤ q := by
  unfold rowF rowQ; rw [List.length_map]; exact Nat.le_trans (List.length_filter_le _ _) (by simp)
theorem rowF_all {X Y Z : Int} (hX : Box X Y Z) {T : List Int} {d w : Nat} (hd : d < 2) (hw : w < skyK X Y Z d) : rowF T Y d w (X * Y).toNat = skyL X Y Z T d w := by
  have key : rowQ Y d w (X * Y).toNat = (List.range (ci (X, Y, Z) d).toNat).map (ixD Y d w) := by
    obtain ⟨hx, hy, _⟩ := hX
    obtain rfl | rfl : d = 0 ∨ d = 1 := by omega
    all_goals
      obtain rfl | rfl | rfl | rfl : X = 1 ∨ X = 2 ∨ X = 3 ∨ X = 4 := by omega
      all_goals
        obtain rfl | rfl | rfl | rfl : Y = 1 ∨ Y = 2 ∨ Y = 3 ∨ Y = 4 := by omega
        all_goals
          simp only [skyK, ci] at hw
          simp only [ci]
          simp at hw
          obtain rfl | rfl | rfl | rfl : w = 0 ∨ w = 1 ∨ w = 2 ∨ w = 3 := by omega
          all_goals first | rfl | decide | omega
  unfold rowF skyL skyN
  rw [key, List.map_map]; rfl
theorem skyN_length (T : List Int) (Y : Int) (d w m : Nat) : (skyN T Y d w m).length = m := by simp [skyN]
theorem skyN_succ (T : List Int) (Y : Int) (d w m : Nat) : skyN T Y d w (m + 1) = skyN T Y d w m ++ [at1 T (ixD Y d w m)] := by simp [skyN, List.range_succ]
theorem skyL_length (X Y Z : Int) (T : List Int) (d w : Nat) : (skyL X Y Z T d w).length = (ci (X, Y, Z) d).toNat := skyN_length _ _ _ _ _
theorem wq_lt {X Y Z : Int} (hX : Box X Y Z) {d q : Nat} (hd : d < 2) (hq : q < (X * Y).toNat) : wq Y d q < skyK X Y Z d := by
  obtain ⟨hx, hy, _⟩ := hX
  obtain rfl | rfl : d = 0 ∨ d = 1 := by omega
  all_goals
    obtain rfl | rfl | rfl | rfl : X = 1 ∨ X = 2 ∨ X = 3 ∨ X = 4 := by omega
    all_goals
      obtain rfl | rfl | rfl | rfl : Y = 1 ∨ Y = 2 ∨ Y = 3 ∨ Y = 4 := by omega
      all_goals
        simp only [wq, skyK, ci]
        simp at hq ⊢
        omega
theorem wq_div {Y : Int} {q : Nat} (hY : 1 ≤ Y ∧ Y ≤ 4) : (q : Int).tdiv Y = ((q / Y.toNat : Nat) : Int) ∧ (q : Int).tmod Y = ((q % Y.toNat : Nat) : Int) := by
  obtain ⟨k, rfl⟩ := Int.eq_ofNat_of_zero_le (show 0 ≤ Y by omega)
  exact ⟨rfl, rfl⟩
/-- A row's slice in the table, nil as long as the row is empty. -/
def optV (q : Nat) (m : Nat) : Value := .slice (if m = 0 then none else some ⟨q, 0, none⟩) m (if m = 0 then 0 else 1)
theorem optV_0 {q m : Nat} (h : m = 0) : optV q m = .slice none 0 0 := by subst h; rfl
theorem optV_1 {q m : Nat} (h : m ≠ 0) : optV q m = .slice (some ⟨q, 0, none⟩) m 1 := by unfold optV; rw [if_neg h, if_neg h]
def optT (Q ln : Nat → Nat) (k : Nat) : List Value := (List.range k).map fun i => optV (Q i) (ln i)
theorem optT_length (Q ln : Nat → Nat) (k : Nat) : (optT Q ln k).length = k := by simp [optT]
theorem optT_at {Q ln : Nat → Nat} {k i : Nat} (h : i < k) : (optT Q ln k)[0 + i * 1]? = some (optV (Q i) (ln i)) := by simp [optT, h]
theorem optT_zero (Q : Nat → Nat) (k : Nat) : optT Q (fun _ => 0) k = zeros [.slice none 0 0] k := by
  induction k with
  | zero => rfl
  | succ k ih =>
    have e : optT Q (fun _ => 0) (k + 1) = optT Q (fun _ => 0) k ++ [.slice none 0 0] := by simp [optT, List.range_succ, optV]
    rw [e, ih]
    clear ih e
    induction k with
    | zero => rfl
    | succ k ih => simp only [zeros, List.cons_append, List.nil_append] at ih ⊢; rw [ih]
theorem optT_set {Q ln ln' : Nat → Nat} {k i q m : Nat} (hi : i < k) (hm : m = ln' i) (h0 : m ≠ 0) (h : ∀ j, j ≠ i → ln' j = ln j) : (optT Q ln k).set (0 + i * 1) (.slice (some ⟨q, 0, none⟩) m 1) = optT (updQ Q i q) ln' k := by
  subst hm
  refine List.ext_getElem (by simp [optT]) fun j h1 h2 => ?_
  simp only [optT, List.length_map, List.length_range, List.length_set] at h1 h2
  rw [List.getElem_set]
  simp only [optT, List.getElem_map, List.getElem_range]
  by_cases e : i = j
  · subst e; rw [if_pos (by omega), updQ_same, optV_1 h0]
  · rw [if_neg (by omega), updQ_ne (by omega), h j (by omega)]
theorem optT_full {Q ln : Nat → Nat} {k : Nat} (h : ∀ i, i < k → ln i ≠ 0) : optT Q ln k = tabV Q 1 ln k := List.map_congr_left fun i hi => optV_1 (h i (by simpa using hi))
def delO (H : Heap) (q k : Nat) : Heap := if k = 0 then H else H.del q
theorem look_delO {H : Heap} {q k y : Nat} {c : Blk} (h : y ≠ q ∨ k = 0) (hy : H y = some c) : delO H q k y = some c := by
  unfold delO
  split
  · exact hy
  · unfold Heap.del; rw [if_neg (by omega)]; exact hy
theorem Keeps.delO {U : List Nat} {m q k : Nat} {G0 G : Heap} (h : Keeps U m G0 G) (hx : m ≤ q ∨ q ∈ U ∨ k = 0) : Keeps U m G0 (delO G q k) := by
  unfold Go.Sep.delO
  split
  · exact h
  · exact h.del (by rcases hx with g | g | g; exact .inl g; exact .inr g; omega)
theorem Keeps.delO2 {U : List Nat} {m q k : Nat} {G0 G : Heap} (h : Keeps U m G0 G) (hx : m ≤ q ∨ k = 0) : Keeps U m G0 (Go.Sep.delO G q k) := h.delO (by rcases hx with g | g; exact .inl g; exact .inr (.inr g))
theorem app_opt {t t1 e e1 : TypeId} {x y : Operand} {q k m : Nat} {cs xs : List Value} {sv : Value} {sz by' : Nat} {z : List Value} {g : Bool} {sz1 by1 : Nat} {z1 : List Value} {g1 : Bool}
    {d' : TD} {by'' : Nat} {z' : List Value} {g' : Bool} (ht : ti P t = some ⟨.slice e, sz, by', z, g⟩) (ht1 : ti P t1 = some ⟨.slice e1, sz1, by1, z1, g1⟩) (hE : ti P e = some ⟨d', 1, by'', z', g'⟩)
    (hx : ev ts x = some (optV q k)) (hy : ev ts y = some sv) (hH : k ≠ 0 → H q = some (.cells false cs)) (h0 : k = 0 → cs = []) (hT : cTake H 1 sv = some (m + 1, xs))
    (hk : by'' ≤ 2 ^ 16 ∧ z'.length = 1) (hl : cs.length = k) (hkm : k + (m + 1) ≤ 2 ^ 24) :
    E P (.call { callee := .builtin .append, args := #[x, y], argTypes := #[t, t1] }) ts H n (.slice (some ⟨n, 0, none⟩) (k + (m + 1)) 1) ((delO H q k).set n (.cells false (cs ++ xs))) (n + 1) := by
  refine ⟨?_, rfl⟩
  simp only [cop, cBuiltin, hx, hy]
  unfold cAppend
  simp only [List.getElem?_toArray, List.getElem?_cons_zero, List.getElem?_cons_succ, ht, ht1, hE, hT]
  rw [if_pos ⟨hk.1, hk.2, by omega⟩]
  by_cases hz : k = 0
  · have e1 := h0 hz
    subst hz; subst e1
    rw [optV_0 rfl]
    simp [delO]; omega
  · rw [optV_1 hz]
    simp [delO, hH hz, hz, hl]; omega
theorem pair_get {Y : Int} {d q : Nat} (hd : d < 2) (hY : 1 ≤ Y ∧ Y ≤ 4) : [Value.int .i64 ((q : Int).tdiv Y), Value.int .i64 ((q : Int).tmod Y)][0 + (1 - d) * 1]? = some (.int .i64 ((wq Y d q : Nat) : Int)) := by
  have h := wq_div (q := q) hY
  rw [h.1, h.2]
  obtain rfl | rfl : d = 0 ∨ d = 1 := by omega
  all_goals rfl
theorem ixD_0 {Y : Int} {w m : Nat} (hY : 1 ≤ Y) : (m : Int) * Y + (w : Int) = ((ixD Y 0 w m : Nat) : Int) := by
  obtain ⟨k, rfl⟩ := Int.eq_ofNat_of_zero_le (show 0 ≤ Y by omega)
  simp [ixD]
theorem ixD_1 {Y : Int} {d w m : Nat} (hY : 1 ≤ Y) (hd : ¬ d = 0) : (w : Int) * Y + (m : Int) = ((ixD Y d w m : Nat) : Int) := by
  obtain ⟨k, rfl⟩ := Int.eq_ofNat_of_zero_le (show 0 ≤ Y by omega)
  simp [ixD, hd]
theorem ixD_lt {X Y Z : Int} (hX : Box X Y Z) {d w m : Nat} (hd : d < 2) (hw : w < skyK X Y Z d) (hm : m < (ci (X, Y, Z) d).toNat) : ixD Y d w m < (X * Y).toNat := by
  obtain ⟨hx, hy, _⟩ := hX
  obtain rfl | rfl : d = 0 ∨ d = 1 := by omega
  all_goals
    obtain rfl | rfl | rfl | rfl : X = 1 ∨ X = 2 ∨ X = 3 ∨ X = 4 := by omega
    all_goals
      obtain rfl | rfl | rfl | rfl : Y = 1 ∨ Y = 2 ∨ Y = 3 ∨ Y = 4 := by omega
      all_goals
        simp only [skyK, ci] at hw hm
        simp at hw hm
        simp only [ixD]
        simp
        omega
/-- Greatest numbers. -/
def mxN (L : List Int) (i : Nat) : Int := (L.take i).foldl max (at1 L 0)
def mx0 (L : List Int) (i : Nat) : Int := (L.take i).foldl max 0
theorem mxN_one {L : List Int} (h : 0 < L.length) : mxN L 1 = at1 L 0 := by
  unfold mxN
  rw [show 1 = 0 + 1 from rfl, take_succ1 h]; simp [at1]
theorem mxN_succ {L : List Int} {i : Nat} (h : i < L.length) : max (mxN L i) (at1 L i) = mxN L (i + 1) := by
  unfold mxN; rw [take_succ1 h, List.foldl_append]; rfl
theorem mx0_zero (L : List Int) : mx0 L 0 = 0 := rfl
theorem mx0_succ {L : List Int} {i : Nat} (h : i < L.length) : max (mx0 L i) (at1 L i) = mx0 L (i + 1) := by
  unfold mx0; rw [take_succ1 h, List.foldl_append]; rfl
theorem mx_eq {L : List Int} (hb : ∀ j, 0 ≤ at1 L j) : ∀ i, i + 1 ≤ L.length → mxN L (i + 1) = mx0 L (i + 1)
  | 0, h => by
    rw [mxN_one (by omega), ← mx0_succ (by omega), mx0_zero]
    have := hb 0
    omega
  | i + 1, h => by rw [← mxN_succ (by omega), ← mx0_succ (by omega), mx_eq hb i (by omega)]
theorem mx_all {L : List Int} (hb : ∀ j, 0 ≤ at1 L j) (h : 0 < L.length) : mxN L L.length = mx0 L L.length := by
  obtain ⟨i, e⟩ : ∃ i, L.length = i + 1 := ⟨L.length - 1, by omega⟩
  rw [e]; exact mx_eq hb i (by omega)
theorem skyL_at {X Y Z : Int} {T : List Int} {d w m : Nat} (h : m < (ci (X, Y, Z) d).toNat) : at1 (skyL X Y Z T d w) m = at1 T (ixD Y d w m) := by
  simp [skyL, skyN, at1, h]
theorem skyL_bd {X Y Z : Int} {T : List Int} {d w : Nat} (hb : ∀ j, 0 ≤ at1 T j) (m : Nat) : 0 ≤ at1 (skyL X Y Z T d w) m := by
  rcases Nat.lt_or_ge m (ci (X, Y, Z) d).toNat with h | h
  · rw [skyL_at h]; exact hb _
  · have := skyL_length X Y Z T d w
    simp only [at1, List.getD_eq_getElem?_getD]
    rw [List.getElem?_eq_none (by omega)]; simp
def skyM (X Y Z : Int) (T : List Int) (d i : Nat) : List Int := (List.range i).map fun w => mx0 (skyL X Y Z T d w) (skyL X Y Z T d w).length
theorem skyM_zero (X Y Z : Int) (T : List Int) (d : Nat) : skyM X Y Z T d 0 = [] := rfl
theorem skyM_succ (X Y Z : Int) (T : List Int) (d i : Nat) : skyM X Y Z T d (i + 1) = skyM X Y Z T d i ++ [mx0 (skyL X Y Z T d i) (skyL X Y Z T d i).length] := by simp [skyM, List.range_succ]
theorem skyM_length (X Y Z : Int) (T : List Int) (d i : Nat) : (skyM X Y Z T d i).length = i := by simp [skyM]
theorem within_flat {d : Nat} (h : d < 2) : within (d : Int) 0 1 = true := by simp [within]; omega
theorem flat_nat {p : Int} (h : within p 0 1 = true) : ∃ d : Nat, p = d ∧ d < 2 := by
  simp [within] at h; exact ⟨p.toNat, by omega, by omega⟩
end Go.Sep
/- What is seen along a row; rows turned round in place. -/
namespace Go.Sep
open Go
set_option linter.unusedVariables false
set_option linter.unusedSimpArgs false

theorem res0 {P : Program} {s : St} : resOf P s [] = some (.tuple #[]) := rfl
theorem at1_get {L : List Int} {m : Nat} (h : m < L.length) : at1 L m = L[m] := by
  simp only [at1, List.getD_eq_getElem?_getD, List.getElem?_eq_getElem h, Option.getD_some]
def revN (L : List Int) (i : Nat) : List Int := (List.range L.length).map fun m => if m < i ∨ L.length ≤ m + i then at1 L (L.length - 1 - m) else at1 L m
theorem revN_length (L : List Int) (i : Nat) : (revN L i).length = L.length := by simp [revN]
theorem revN_get {L : List Int} {i m : Nat} (h : m < (revN L i).length) : (revN L i)[m] = if m < i ∨ L.length ≤ m + i then at1 L (L.length - 1 - m) else at1 L m := by
  simp only [revN, List.getElem_map, List.getElem_range]
theorem revN_zero (L : List Int) : revN L 0 = L := by
  refine List.ext_getElem (revN_length L 0) fun m h1 h2 => ?_
  rw [revN_get h1, if_neg (by omega), at1_get h2]
theorem revN_same {L : List Int} {i m : Nat} (hm : m < L.length) (h : ¬ (m < i ∨ L.length ≤ m + i)) : at1 (revN L i) m = at1 L m := by
  have h1 : m < (revN L i).length := by rw [revN_length]; exact hm
  rw [at1_get h1, revN_get h1, if_neg h]
theorem revN_set {L : List Int} {i : Nat} (h : 2 * i + 1 < L.length) : ((revN L i).set i (at1 L (L.length - 1 - i))).set (L.length - 1 - i) (at1 L i) = revN L (i + 1) := by
  refine List.ext_getElem (by simp [revN]) fun m h1 h2 => ?_
  rw [revN_get h2, List.getElem_set, List.getElem_set]
  have hm : m < L.length := by rw [revN_length] at h2; exact h2
  by_cases e : L.length - 1 - i = m
  · rw [if_pos e, if_pos (by omega)]; congr 1; omega
  · rw [if_neg e]
    by_cases e2 : i = m
    · rw [if_pos e2, if_pos (by omega), e2]
    · rw [if_neg e2, revN_get]
      by_cases e3 : m < i ∨ L.length ≤ m + i
      · rw [if_pos e3, if_pos (by omega)]
      · rw [if_neg e3, if_neg (by omega)]
theorem revN_end {L : List Int} {i : Nat} (h : L.length ≤ 2 * i + 1) : revN L i = L.reverse := by
  refine List.ext_getElem (by simp [revN]) fun m h1 h2 => ?_
  have hm : m < L.length := by rw [revN_length] at h1; exact h1
  rw [revN_get h1, List.getElem_reverse]
  by_cases e : m < i ∨ L.length ≤ m + i
  · rw [if_pos e, at1_get (by omega)]
  · rw [if_neg e, at1_get hm]
    congr 1; omega
theorem rev_at {L : List Int} {m : Nat} (h : m < L.length) : at1 L.reverse m = at1 L (L.length - 1 - m) := by
  rw [at1_get (by simpa using h), List.getElem_reverse, at1_get (by omega)]
def sgL (bk : Bool) (L : List Int) : List Int := if bk then L.reverse else L
theorem sgL_length (bk : Bool) (L : List Int) : (sgL bk L).length = L.length := by cases bk <;> simp [sgL]
theorem sg_T {bk : Bool} {L : List Int} (h : bk = true) : sgL bk L = L.reverse := by subst h; rfl
theorem sg_F {bk : Bool} {L : List Int} (h : bk = false) : sgL bk L = L := by subst h; rfl
def seen (L : List Int) : Nat → Int
  | 0 => 0
  | i + 1 => if mx0 L i < at1 L i then seen L i + 1 else seen L i
theorem seen_T {L : List Int} {i : Nat} (h : mx0 L i < at1 L i) : seen L i + 1 = seen L (i + 1) := by simp only [seen, if_pos h]
theorem seen_F {L : List Int} {i : Nat} (h : ¬ mx0 L i < at1 L i) : seen L i = seen L (i + 1) := by simp only [seen, if_neg h]
theorem mx_T {L : List Int} {i : Nat} (hi : i < L.length) (h : mx0 L i < at1 L i) : at1 L i = mx0 L (i + 1) := by rw [← mx0_succ hi]; omega
theorem mx_F {L : List Int} {i : Nat} (hi : i < L.length) (h : ¬ mx0 L i < at1 L i) : mx0 L i = mx0 L (i + 1) := by rw [← mx0_succ hi]; omega
theorem seen_bd (L : List Int) : ∀ i : Nat, 0 ≤ seen L i ∧ seen L i ≤ (i : Int)
  | 0 => by simp [seen]
  | i + 1 => by have := seen_bd L i; simp only [seen]; split <;> omega
def sgtM (X Y Z : Int) (T : List Int) (d : Nat) (bk : Bool) (i : Nat) : List Int := (List.range i).map fun w => seen (sgL bk (skyL X Y Z T d w)) (skyL X Y Z T d w).length
theorem sgtM_zero (X Y Z : Int) (T : List Int) (d : Nat) (bk : Bool) : sgtM X Y Z T d bk 0 = [] := rfl
theorem sgtM_succ (X Y Z : Int) (T : List Int) (d : Nat) (bk : Bool) (i : Nat) : sgtM X Y Z T d bk (i + 1) = sgtM X Y Z T d bk i ++ [seen (sgL bk (skyL X Y Z T d i)) (skyL X Y Z T d i).length] := by simp [sgtM, List.range_succ]
theorem sgtM_length (X Y Z : Int) (T : List Int) (d : Nat) (bk : Bool) (i : Nat) : (sgtM X Y Z T d bk i).length = i := by simp [sgtM]
end Go.Sep
/- The 24 turnings. -/
namespace Go.Sep
open Go
set_option linter.unusedVariables false
set_option linter.unusedSimpArgs false

variable {P : Program} {ts : Temps} {H : Heap} {n : Nat}
/-- A calculation on two values, its outcome told. -/
theorem e_bin {op : BinOp} {t u : TypeId} {x y : Operand} {a b v : Value} (hx : ev ts x = some a) (hy : ev ts y = some b) (h : cBin P op t a b = some v) : E P (.binOp op t x y u) ts H n v H n :=
  ⟨by simp only [cop, ev2, hx, hy, h]; rfl, rfl⟩
theorem shr_2 {t : TypeId} {s : Nat} (h : s < 8) : cBin P .shr t (.int .i64 (s : Int)) (.int .u64 2) = some (.int .i64 ((s / 4 : Nat) : Int)) := by
  obtain rfl | rfl | rfl | rfl | rfl | rfl | rfl | rfl : s = 0 ∨ s = 1 ∨ s = 2 ∨ s = 3 ∨ s = 4 ∨ s = 5 ∨ s = 6 ∨ s = 7 := by omega
  all_goals rfl
theorem shr_1 {t : TypeId} {s : Nat} (h : s < 8) : cBin P .shr t (.int .i64 (s : Int)) (.int .u64 1) = some (.int .i64 ((s / 2 : Nat) : Int)) := by
  obtain rfl | rfl | rfl | rfl | rfl | rfl | rfl | rfl : s = 0 ∨ s = 1 ∨ s = 2 ∨ s = 3 ∨ s = 4 ∨ s = 5 ∨ s = 6 ∨ s = 7 := by omega
  all_goals rfl
theorem and_1 {t : TypeId} {s : Nat} (h : s < 8) : cBin P .and t (.int .i64 (s : Int)) (.int .i64 1) = some (.int .i64 ((s % 2 : Nat) : Int)) := by
  obtain rfl | rfl | rfl | rfl | rfl | rfl | rfl | rfl : s = 0 ∨ s = 1 ∨ s = 2 ∨ s = 3 ∨ s = 4 ∨ s = 5 ∨ s = 6 ∨ s = 7 := by omega
  all_goals rfl
/-- The signs that belong to a number below 8. -/
def sgn8 (s : Nat) : C := (((s / 4 : Nat) : Int), ((s / 2 % 2 : Nat) : Int), ((s % 2 : Nat) : Int))
def invN (o : C) : Int := (if o.1 > o.2.1 then 1 else 0) + ((if o.1 > o.2.2 then 1 else 0) + (if o.2.1 > o.2.2 then 1 else 0))
def okT (i s : Nat) : Bool := decide ((invN (at3 ORD i) + (sgn8 s).1 + (sgn8 s).2.1 + (sgn8 s).2.2).tmod 2 = 0)
/-- The turnings of the first orders, and of some signs of the next one. -/
def trnS (i s : Nat) : List (C × C) := ((List.range s).filter (okT i)).map fun j => (at3 ORD i, sgn8 j)
def trnN : Nat → List (C × C)
  | 0 => []
  | i + 1 => trnN i ++ trnS i 8
def trnA (i s : Nat) : List (C × C) := trnN i ++ trnS i s
def flat6 : List (C × C) → List Value
  | [] => []
  | e :: l => tri e.1 ++ (tri e.2 ++ flat6 l)
theorem flat6_length : ∀ l : List (C × C), (flat6 l).length = l.length * 6
  | [] => rfl
  | e :: l => by simp [flat6, tri, flat6_length l]; omega
theorem flat6_snoc : ∀ (l : List (C × C)) (e : C × C), flat6 l ++ (tri e.1 ++ tri e.2) = flat6 (l ++ [e])
  | [], e => by simp [flat6]
  | d :: l, e => by simp only [flat6, List.cons_append, List.append_assoc]; rw [flat6_snoc l e]
theorem flat6_plain : ∀ l : List (C × C), (flat6 l).all plainA = true
  | [] => rfl
  | e :: l => by simp [flat6, tri, plainA, flat6_plain l]
theorem trnS_T {i s : Nat} (h : okT i s = true) : trnS i (s + 1) = trnS i s ++ [(at3 ORD i, sgn8 s)] := by
  unfold trnS; rw [List.range_succ, List.filter_append]; simp [List.filter, h]
theorem trnS_F {i s : Nat} (h : okT i s = false) : trnS i (s + 1) = trnS i s := by
  unfold trnS; rw [List.range_succ, List.filter_append]; simp [List.filter, h]
theorem trnA_T {i s : Nat} (h : okT i s = true) : trnA i s ++ [(at3 ORD i, sgn8 s)] = trnA i (s + 1) := by unfold trnA; rw [trnS_T h, List.append_assoc]
theorem trnA_F {i s : Nat} (h : okT i s = false) : trnA i s = trnA i (s + 1) := by unfold trnA; rw [trnS_F h]
theorem trnA_8 (i : Nat) : trnA i 8 = trnA (i + 1) 0 := by simp [trnA, trnN, trnS]
theorem trnA_len {i s : Nat} (hi : i ≤ 6) (hs : s ≤ 8) : (trnA i s).length ≤ 64 := by
  have h : ∀ i s, (trnS i s).length ≤ s := fun i s => by unfold trnS; rw [List.length_map]; exact Nat.le_trans (List.length_filter_le _ _) (by simp)
  have h2 : ∀ i, (trnN i).length ≤ 8 * i := by
    intro i
    induction i with
    | zero => simp [trnN]
    | succ i ih => have := h i 8; simp [trnN]; omega
  have := h i s; have := h2 i
  simp [trnA]; omega
def TRN : List (C × C) := trnA 6 0
theorem TRN_length : TRN.length = 24 := by decide +kernel
/-- Inversions, one after the other. -/
def odS (i k : Nat) : Nat → Int
  | 0 => 0
  | l + 1 => if ci (at3 ORD i) k < ci (at3 ORD i) l then odS i k l + 1 else odS i k l
def odN (i : Nat) : Nat → Int
  | 0 => 0
  | k + 1 => odN i k + odS i k k
theorem odS_T {i k l : Nat} (h : ci (at3 ORD i) k < ci (at3 ORD i) l) : odS i k l + 1 = odS i k (l + 1) := by simp only [odS, if_pos h]
theorem odS_F {i k l : Nat} (h : ¬ ci (at3 ORD i) k < ci (at3 ORD i) l) : odS i k l = odS i k (l + 1) := by simp only [odS, if_neg h]
theorem odS_bd (i k : Nat) : ∀ l : Nat, 0 ≤ odS i k l ∧ odS i k l ≤ (l : Int)
  | 0 => by simp [odS]
  | l + 1 => by have := odS_bd i k l; simp only [odS]; split <;> omega
theorem odN_bd (i : Nat) : ∀ k : Nat, 0 ≤ odN i k ∧ odN i k ≤ 3 * (k : Int) ∨ 3 < k
  | 0 => by simp [odN]
  | k + 1 => by have h := odN_bd i k; have h2 := odS_bd i k k; simp only [odN]; omega
theorem odN_all {i : Nat} (h : i < 6) : odN i 3 = invN (at3 ORD i) := by
  obtain rfl | rfl | rfl | rfl | rfl | rfl : i = 0 ∨ i = 1 ∨ i = 2 ∨ i = 3 ∨ i = 4 ∨ i = 5 := by omega
  all_goals decide +kernel
/-- The order that begins with two directions. -/
def pIx (a b : Nat) : Nat := 2 * a + (if a < b then b - 1 else b)
theorem pIx_lt {a b : Nat} (ha : a < 3) (hb : b < 3) (h : a ≠ b) : pIx a b < 6 := by unfold pIx; split <;> omega
theorem pIx_same {a : Nat} : pIx a (a + 1) = pIx a a := by unfold pIx; split <;> split <;> omega
theorem pIx_next {a b : Nat} (h : a ≠ b) : pIx a (b + 1) = pIx a b + 1 := by unfold pIx; split <;> split <;> omega
theorem pIx_end {a : Nat} (h : a < 3) : pIx a 3 = pIx (a + 1) 0 := by unfold pIx; split <;> split <;> omega
theorem ord_ix {a b : Nat} (ha : a < 3) (hb : b < 3) (h : a ≠ b) : at3 ORD (pIx a b) = ((a : Int), (b : Int), (3 : Int) - a - b) := by
  obtain rfl | rfl | rfl : a = 0 ∨ a = 1 ∨ a = 2 := by omega
  all_goals
    obtain rfl | rfl | rfl : b = 0 ∨ b = 1 ∨ b = 2 := by omega
    all_goals first | exact absurd rfl h | decide
theorem okT_eq {i s : Nat} (hi : i < 6) (hs : s < 8) : decide ((invN (at3 ORD i)).tmod 2 = ((sgn8 s).1 + (sgn8 s).2.1 + (sgn8 s).2.2).tmod 2) = okT i s := by
  revert s
  revert i
  decide +kernel
/-! ### A cell turned -/
def at6 (l : List (C × C)) (j : Nat) : C × C := l.getD j ((0, 0, 0), (0, 0, 0))
/-- Turned: the order's components, some of them mirrored in the new box. -/
def tK (o g S c : C) (k : Nat) : Int := if ci g k = 1 then ci S k - 1 - ci c (ci o k).toNat else ci c (ci o k).toNat
def tC (o g S c : C) : C := (tK o g S c 0, tK o g S c 1, tK o g S c 2)
/-- The sides of the new box. -/
def tS (o S : C) : C := (ci S (ci o 0).toNat, ci S (ci o 1).toNat, ci S (ci o 2).toNat)
structure Turn (e : C × C) : Prop where
  o : ∀ k, k < 3 → 0 ≤ ci e.1 k ∧ ci e.1 k < 3
  g : ∀ k, k < 3 → ci e.2 k = 0 ∨ ci e.2 k = 1
theorem turn_all : TRN.all (fun e => (List.range 3).all fun k => decide ((0 ≤ ci e.1 k ∧ ci e.1 k < 3) ∧ (ci e.2 k = 0 ∨ ci e.2 k = 1))) = true := by decide +kernel
theorem turn_at {j : Nat} (h : j < 24) : Turn (at6 TRN j) := by
  have h2 := turn_all
  simp only [List.all_eq_true, List.mem_range, decide_eq_true_eq] at h2
  have h3 : at6 TRN j ∈ TRN := by
    have hl : j < TRN.length := by rw [TRN_length]; exact h
    simp only [at6, List.getD_eq_getElem?_getD, List.getElem?_eq_getElem hl, Option.getD_some]
    exact List.getElem_mem hl
  exact ⟨fun k hk => (h2 _ h3 k hk).1, fun k hk => (h2 _ h3 k hk).2⟩
theorem tK_in {e : C × C} (ht : Turn e) {S c : C} (hc : ∀ k, k < 3 → 0 ≤ ci c k ∧ ci c k < ci S k) {k : Nat} (hk : k < 3) : 0 ≤ tK e.1 e.2 (tS e.1 S) c k ∧ tK e.1 e.2 (tS e.1 S) c k < ci (tS e.1 S) k := by
  have h1 := ht.o k hk
  have h2 := hc (ci e.1 k).toNat (by omega)
  have h3 : ci (tS e.1 S) k = ci S (ci e.1 k).toNat := by
    obtain rfl | rfl | rfl : k = 0 ∨ k = 1 ∨ k = 2 := by omega
    all_goals rfl
  unfold tK
  rw [h3]
  split <;> omega
theorem ci_tC (o g S c : C) {k : Nat} (hk : k < 3) : ci (tC o g S c) k = tK o g S c k := by
  obtain rfl | rfl | rfl : k = 0 ∨ k = 1 ∨ k = 2 := by omega
  all_goals rfl
theorem mix_at {z R : C} {k : Nat} (hk : k < 3) {v : Int} (hv : v = ci R k) : (tri (mixC z R k)).set (0 + k * 1) (.int .i64 v) = tri (mixC z R (k + 1)) := by
  subst hv
  obtain rfl | rfl | rfl : k = 0 ∨ k = 1 ∨ k = 2 := by omega
  all_goals rfl
theorem mix_at2 {z R : C} {k : Nat} (hk : k < 3) {a : Value} {v : Int} (hv : v = ci R k) : ((tri (mixC z R k)).set (0 + k * 1) a).set (0 + k * 1) (.int .i64 v) = tri (mixC z R (k + 1)) := by
  rw [List.set_set]; exact mix_at hk hv
theorem tK_1 {o g S c : C} {k : Nat} (h : ci g k = 1) : ci S k - 1 - ci c (ci o k).toNat = tK o g S c k := by unfold tK; rw [if_pos h]
theorem tK_0 {o g S c : C} {k : Nat} (h : ¬ ci g k = 1) : ci c (ci o k).toNat = tK o g S c k := by unfold tK; rw [if_neg h]
theorem tri_ix {c : C} {k : Nat} (hk : k < 3) : (tri c)[((k : Nat) : Int).toNat * 1]? = some (.int .i64 (ci c k)) := by
  obtain rfl | rfl | rfl : k = 0 ∨ k = 1 ∨ k = 2 := by omega
  all_goals rfl
theorem tri_get2 {a c : C} {k : Nat} (hk : k < 3) : (tri a ++ tri c)[0 + 3 + k * 1]? = some (.int .i64 (ci c k)) := by
  obtain rfl | rfl | rfl : k = 0 ∨ k = 1 ∨ k = 2 := by omega
  all_goals rfl
theorem tS_box {X Y Z : Int} (hX : Box X Y Z) (o : C) : Box (tS o (X, Y, Z)).1 (tS o (X, Y, Z)).2.1 (tS o (X, Y, Z)).2.2 := ⟨ciS hX _, ciS hX _, ciS hX _⟩
theorem tC_in {X Y Z : Int} {e : C × C} (ht : Turn e) {c : C} (hc : In X Y Z c) : In (tS e.1 (X, Y, Z)).1 (tS e.1 (X, Y, Z)).2.1 (tS e.1 (X, Y, Z)).2.2 (tC e.1 e.2 (tS e.1 (X, Y, Z)) c) := by
  have hk : ∀ k, k < 3 → 0 ≤ ci c k ∧ ci c k < ci (X, Y, Z) k := fun k hk => by
    obtain rfl | rfl | rfl : k = 0 ∨ k = 1 ∨ k = 2 := by omega
    · exact hc.1
    · exact hc.2.1
    · exact hc.2.2
  exact ⟨tK_in ht hk (by omega), tK_in ht hk (by omega), tK_in ht hk (by omega)⟩
theorem turn_nat {e : C × C} (ht : Turn e) : e.1.1 = (((ci e.1 0).toNat : Nat) : Int) ∧ e.1.2.1 = (((ci e.1 1).toNat : Nat) : Int) ∧ e.1.2.2 = (((ci e.1 2).toNat : Nat) : Int) ∧ (ci e.1 0).toNat < 3 ∧ (ci e.1 1).toNat < 3 ∧ (ci e.1 2).toNat < 3 := by
  have h0 := ht.o 0 (by omega)
  have h1 := ht.o 1 (by omega)
  have h2 := ht.o 2 (by omega)
  refine ⟨?_, ?_, ?_, by omega, by omega, by omega⟩
  · rw [Int.toNat_of_nonneg h0.1]; rfl
  · rw [Int.toNat_of_nonneg h1.1]; rfl
  · rw [Int.toNat_of_nonneg h2.1]; rfl
theorem tri_get1 {a c : C} {k : Nat} (hk : k < 3) : (tri a ++ tri c)[0 + 0 + k * 1]? = some (.int .i64 (ci a k)) := by
  obtain rfl | rfl | rfl : k = 0 ∨ k = 1 ∨ k = 2 := by omega
  all_goals rfl
theorem ci_tS (o S : C) {k : Nat} (hk : k < 3) : ci (tS o S) k = ci S (ci o k).toNat := by
  obtain rfl | rfl | rfl : k = 0 ∨ k = 1 ∨ k = 2 := by omega
  all_goals rfl
theorem flat6_at : ∀ {l : List (C × C)} {j : Nat}, j < l.length → 0 + j * 6 + 6 ≤ (flat6 l).length ∧ ((flat6 l).drop (0 + j * 6)).take 6 = tri (at6 l j).1 ++ tri (at6 l j).2
  | [], _, h => absurd h (by simp)
  | e :: l, 0, _ => ⟨by rw [flat6_length]; simp; omega, by simp [flat6, tri, at6]⟩
  | e :: l, j + 1, h => by
    have ih := flat6_at (l := l) (j := j) (by simpa using h)
    refine ⟨by rw [flat6_length]; simp at h ⊢; omega, ?_⟩
    have e1 : (flat6 (e :: l)).drop (0 + (j + 1) * 6) = (flat6 l).drop (0 + j * 6) := by
      rw [show 0 + (j + 1) * 6 = (0 + j * 6) + 6 by omega, show (0 + j * 6) + 6 = 6 + (0 + j * 6) by omega, ← List.drop_drop]; rfl
    rw [e1, ih.2]; rfl
theorem within_23 {j : Nat} (h : j < 24) : within (j : Int) 0 23 = true := by simp [within]; omega
theorem turn_nr {p : Int} (h : within p 0 23 = true) : ∃ j : Nat, p = j ∧ j < 24 := by
  simp [within] at h; exact ⟨p.toNat, by omega, by omega⟩
end Go.Sep
/- Switches: four corners of a rectangle. -/
namespace Go.Sep
open Go
set_option linter.unusedVariables false
set_option linter.unusedSimpArgs false

section rules
variable {P : Program} {ts : Temps} {H : Heap} {n : Nat} {x y i : Operand} {t u e : TypeId}
def wadd (a b : Int) : Int := IntKind.i64.wrap (a + b)
theorem wadd_in {a b : Int} (h : inI (a + b)) : wadd a b = a + b := wrap_in h
theorem e_addW {a b : Int} (hx : ev ts x = some (.int .i64 a)) (hy : ev ts y = some (.int .i64 b)) : E P (.binOp .add t x y u) ts H n (.int .i64 (wadd a b)) H n :=
  e_bin hx hy (by simp only [cBin, cInt]; rfl)
theorem e_indexP {m : Nat} {l k : List Value} {q : IntKind} {j : Int} {sz by' : Nat} {z : List Value} {g : Bool} {d' : TD} {sz' by'' : Nat} {z' : List Value} {g' : Bool}
    (ht : ti P t = some ⟨.array m e, sz, by', z, g⟩) (hE : ti P e = some ⟨d', sz', by'', z', g'⟩) (hd : d'.agg = true) (hx : ev ts x = some (.agg (List.toArray l))) (hi : ev ts i = some (.int q j)) (hb : 0 ≤ j ∧ j < (m : Int))
    (hv : (l.drop (j.toNat * sz')).take sz' = k) : E P (.index t x i) ts H n (.agg (List.toArray k)) H n := by
  refine ⟨?_, rfl⟩
  simp only [cop, ev2, hx, hi, cIndex, ht, hE, cPart, hd, if_true]
  rw [if_pos hb, hv]; rfl
theorem e_sliceAHi {b o m : Nat} {sp : Option Nat} {ro : Bool} {cs : List Value} {q : IntKind} {j : Int} {sz by' : Nat} {z : List Value} {g : Bool} {d' : TD} {sz' by'' : Nat} {z' : List Value} {g' : Bool} (a : Nat)
    (ht : ti P t = some ⟨.array m e, sz, by', z, g⟩) (hE : ti P e = some ⟨d', sz', by'', z', g'⟩) (hx : ev ts x = some (.pointer (some ⟨b, o, sp⟩))) (hy : ev ts y = some (.int q j)) (hH : H b = some (.cells ro cs)) (hl : o + m * sz' ≤ cs.length)
    (hj : j = ((a + 1 : Nat) : Int)) (ha : a + 1 ≤ m) : E P (.slice t x none (some y) none) ts H n (.slice (some ⟨b, o, none⟩) (a + 1) sz') H n := by
  subst hj
  refine ⟨?_, rfl⟩
  simp only [cop, evO, hy, ev1, hx, cSlice, ht, hE, hH]
  rw [if_pos hl]
  simp only [cBounds]
  rw [if_pos ⟨by omega, by omega⟩]
  simp [withH]
theorem e_arrayAt {b o m k : Nat} {sp : Option Nat} {es : Nat} {sz by' : Nat} {z : List Value} {g : Bool}
    (ht : ti P t = some ⟨.array k e, sz, by', z, g⟩) (hx : ev ts x = some (.slice (some ⟨b, o, sp⟩) m es)) (hk : k ≤ m) : E P (.sliceToArrayPointer t x) ts H n (.pointer (some ⟨b, o, none⟩)) H n := by
  refine ⟨?_, rfl⟩
  simp only [cop, ev1, hx, cArrayAt, ht]
  rw [if_pos hk]; rfl
theorem and_2 {t : TypeId} {s : Nat} (h : s < 8) : cBin P .and t (.int .i64 (s : Int)) (.int .i64 2) = some (.int .i64 ((2 * (s / 2 % 2) : Nat) : Int)) := by
  obtain rfl | rfl | rfl | rfl | rfl | rfl | rfl | rfl : s = 0 ∨ s = 1 ∨ s = 2 ∨ s = 3 ∨ s = 4 ∨ s = 5 ∨ s = 6 ∨ s = 7 := by omega
  all_goals rfl
end rules

/-! ### Cells with one number changed -/
def putc (c : C) (p : Nat) (z : Int) : C := (if p = 0 then z else c.1, if p = 1 then z else c.2.1, if p = 2 then z else c.2.2)
theorem tri_put {c : C} {p : Nat} (hp : p < 3) (z : Int) : (tri c).set (0 + p * 1) (.int .i64 z) = tri (putc c p z) := by
  obtain rfl | rfl | rfl : p = 0 ∨ p = 1 ∨ p = 2 := by omega
  all_goals rfl
theorem tri_putL {a b c : Int} {p : Nat} (hp : p < 3) (z : Int) : [Value.int .i64 a, .int .i64 b, .int .i64 c].set (0 + p * 1) (.int .i64 z) = tri (putc (a, b, c) p z) := tri_put (c := (a, b, c)) hp z
theorem flat_put : ∀ {L : List C} {i p : Nat} {c : C}, i < L.length → p < 3 → ∀ z : Int, (flat (L.set i c)).set (0 + i * 3 + p * 1) (.int .i64 z) = flat (L.set i (putc c p z))
  | [], _, _, _, h, _, _ => absurd h (by simp)
  | d :: L, 0, p, c, _, hp, z => by
    obtain rfl | rfl | rfl : p = 0 ∨ p = 1 ∨ p = 2 := by omega
    all_goals rfl
  | d :: L, i + 1, p, c, h, hp, z => by
    have ih := flat_put (L := L) (i := i) (p := p) (c := c) (by simpa using h) hp z
    have e1 : 0 + (i + 1) * 3 + p * 1 = (0 + i * 3 + p * 1) + 3 := by omega
    simp only [List.set_cons_succ, flat, e1, List.set_cons_succ]
    rw [ih]
theorem flat_putget {L : List C} {i p : Nat} {c : C} (h : i < L.length) (hp : p < 3) : (flat (L.set i c))[0 + i * 3 + p * 1]? = some (.int .i64 (ci c p)) := by
  rw [flat_getJ (by simpa using h) hp]
  congr 2
  simp [at3, List.getD, h]

/-! ### Corners -/
def bmp (c : C) (p : Nat) (d : Int) : C := putc c p (wadd (ci c p) d)
def cor (c : C) (p q : Nat) (d e : Int) (j : Nat) : C :=
  if j / 2 % 2 = 1 then bmp (if j % 2 = 1 then bmp c p d else c) q e else if j % 2 = 1 then bmp c p d else c
def corN (c : C) (p q : Nat) (d e : Int) (i : Nat) : List C := (List.range 4).map fun j => if j < i then cor c p q d e j else (0, 0, 0)
theorem corN_len (c : C) (p q : Nat) (d e : Int) (i : Nat) : (corN c p q d e i).length = 4 := by simp [corN]
theorem corN_zero (c : C) (p q : Nat) (d e : Int) : flat (corN c p q d e 0) = [.int .i64 0, .int .i64 0, .int .i64 0, .int .i64 0, .int .i64 0, .int .i64 0, .int .i64 0, .int .i64 0, .int .i64 0, .int .i64 0, .int .i64 0, .int .i64 0] := by
  simp [corN, List.range, List.range.loop, flat]
theorem corN_succ {c : C} {p q : Nat} {d e : Int} {i : Nat} (h : i < 4) : (corN c p q d e i).set i (cor c p q d e i) = corN c p q d e (i + 1) := by
  obtain rfl | rfl | rfl | rfl : i = 0 ∨ i = 1 ∨ i = 2 ∨ i = 3 := by omega
  all_goals simp [corN, List.range, List.range.loop]
theorem corN_at {c : C} {p q : Nat} {d e : Int} {i : Nat} (h : i < 4) : at3 (corN c p q d e 4) i = cor c p q d e i := by
  obtain rfl | rfl | rfl | rfl : i = 0 ∨ i = 1 ∨ i = 2 ∨ i = 3 := by omega
  all_goals rfl
theorem corN_drop {c : C} {p q : Nat} {d e : Int} {i : Nat} (h : i < 4) : ((flat (corN c p q d e 4)).drop (((i : Nat) : Int).toNat * 3)).take 3 = tri (cor c p q d e i) := by
  have := (flat_at (cs := corN c p q d e 4) (k := i) (by rw [corN_len]; exact h)).2
  rw [corN_at h] at this
  rw [← this]; simp
theorem cor_TT {c : C} {p q : Nat} {d e : Int} {i : Nat} (h1 : ((i % 2 : Nat) : Int) = 1) (h2 : ((2 * (i / 2 % 2) : Nat) : Int) = 2) : putc (putc c p (wadd (ci c p) d)) q (wadd (ci (putc c p (wadd (ci c p) d)) q) e) = cor c p q d e i := by
  unfold cor; rw [if_pos (by omega), if_pos (by omega)]; rfl
theorem cor_TF {c : C} {p q : Nat} {d e : Int} {i : Nat} (h1 : ((i % 2 : Nat) : Int) = 1) (h2 : ¬ ((2 * (i / 2 % 2) : Nat) : Int) = 2) : putc c p (wadd (ci c p) d) = cor c p q d e i := by
  unfold cor; rw [if_neg (by omega), if_pos (by omega)]; rfl
theorem cor_FT {c : C} {p q : Nat} {d e : Int} {i : Nat} (h1 : ¬ ((i % 2 : Nat) : Int) = 1) (h2 : ((2 * (i / 2 % 2) : Nat) : Int) = 2) : putc c q (wadd (ci c q) e) = cor c p q d e i := by
  unfold cor; rw [if_pos (by omega), if_neg (by omega)]; rfl
theorem cor_FF {c : C} {p q : Nat} {d e : Int} {i : Nat} (h1 : ¬ ((i % 2 : Nat) : Int) = 1) (h2 : ¬ ((2 * (i / 2 % 2) : Nat) : Int) = 2) : c = cor c p q d e i := by
  unfold cor; rw [if_neg (by omega), if_neg (by omega)]
/-- Are five numbers those of a rectangle in the box? -/
def rectB (X Y Z : Int) (c : C) (p q : Nat) (d e : Int) : Bool := within d 1 4 && within e 1 4 && inBox X Y Z c && inBox X Y Z (cor c p q d e 3)
theorem ci_putc {c : C} {p k : Nat} {z : Int} (hp : p < 3) (hk : k < 3) : ci (putc c p z) k = if k = p then z else ci c k := by
  obtain rfl | rfl | rfl : p = 0 ∨ p = 1 ∨ p = 2 := by omega
  all_goals
    obtain rfl | rfl | rfl : k = 0 ∨ k = 1 ∨ k = 2 := by omega
    all_goals rfl
theorem in_ci {X Y Z : Int} {c : C} : In X Y Z c ↔ ∀ k, k < 3 → 0 ≤ ci c k ∧ ci c k < ci (X, Y, Z) k := by
  constructor
  · intro h k hk
    obtain rfl | rfl | rfl : k = 0 ∨ k = 1 ∨ k = 2 := by omega
    · exact h.1
    · exact h.2.1
    · exact h.2.2
  · intro h
    exact ⟨h 0 (by omega), h 1 (by omega), h 2 (by omega)⟩
structure Rect (X Y Z : Int) (c : C) (p q : Nat) (d e : Int) : Prop where
  db : 1 ≤ d ∧ d ≤ 4
  eb : 1 ≤ e ∧ e ≤ 4
  inn : ∀ j, j < 4 → In X Y Z (cor c p q d e j)
  apart : ∀ j k, j < 4 → k < 4 → j ≠ k → cor c p q d e j ≠ cor c p q d e k
theorem cor_ci {X Y Z : Int} {c : C} {p q : Nat} {d e : Int} (hp : p < 3) (hq : q < 3) (hpq : p ≠ q) (hX : Box X Y Z) (hc : In X Y Z c) (hd : 1 ≤ d ∧ d ≤ 4) (he : 1 ≤ e ∧ e ≤ 4) {j k : Nat} (hj : j < 4) (hk : k < 3) :
    ci (cor c p q d e j) k = ci c k + (if k = p then (if j % 2 = 1 then d else 0) else 0) + (if k = q then (if j / 2 % 2 = 1 then e else 0) else 0) := by
  have h1 := (in_ci.mp hc) k hk
  have h2 := ciS hX k
  have h1p := (in_ci.mp hc) p hp
  have h2p := ciS hX p
  have h1q := (in_ci.mp hc) q hq
  have h2q := ciS hX q
  have w1 : wadd (ci c p) d = ci c p + d := wadd_in (by unfold inI; omega)
  have w2 : wadd (ci c q) e = ci c q + e := wadd_in (by unfold inI; omega)
  have b1 : ci (bmp c p d) k = if k = p then ci c p + d else ci c k := by unfold bmp; rw [ci_putc hp hk, w1]
  have b1q : ci (bmp c p d) q = ci c q := by unfold bmp; rw [ci_putc hp hq, if_neg (fun h => hpq h.symm)]
  have b2 : ci (bmp c q e) k = if k = q then ci c q + e else ci c k := by unfold bmp; rw [ci_putc hq hk, w2]
  have b3 : ci (bmp (bmp c p d) q e) k = if k = q then ci c q + e else if k = p then ci c p + d else ci c k := by
    rw [show bmp (bmp c p d) q e = putc (bmp c p d) q (wadd (ci (bmp c p d) q) e) from rfl, ci_putc hq hk, b1q, w2, b1]
  unfold cor
  by_cases g1 : j / 2 % 2 = 1 <;> by_cases g2 : j % 2 = 1 <;> simp only [g1, g2, if_true, if_false]
  · rw [b3]
    by_cases e1 : k = p
    · subst e1; simp [hpq]
    · by_cases e2 : k = q
      · subst e2; simp [e1]
      · simp [e1, e2]
  · rw [b2]
    by_cases e2 : k = q
    · subst e2; simp
    · simp [e2]
  · rw [b1]
    by_cases e1 : k = p
    · subst e1; simp
    · simp [e1]
  · simp
theorem rect_of {X Y Z : Int} {c : C} {p q : Nat} {d e : Int} (hp : p < 3) (hq : q < 3) (hpq : p ≠ q) (hX : Box X Y Z) (h : rectB X Y Z c p q d e = true) : Rect X Y Z c p q d e := by
  simp only [rectB, Bool.and_eq_true] at h
  obtain ⟨⟨⟨h1, h2⟩, h3⟩, h4⟩ := h
  have hd : 1 ≤ d ∧ d ≤ 4 := by simpa [within] using h1
  have he : 1 ≤ e ∧ e ≤ 4 := by simpa [within] using h2
  have hc : In X Y Z c := inBox_bd h3
  have hf : In X Y Z (cor c p q d e 3) := inBox_bd h4
  have key := fun {j k : Nat} (hj : j < 4) (hk : k < 3) => cor_ci hp hq hpq hX hc hd he hj hk
  refine ⟨hd, he, fun j hj => in_ci.mpr fun k hk => ?_, fun j k hj hk hjk heq => ?_⟩
  · have a := (in_ci.mp hc) k hk
    have b := (in_ci.mp hf) k hk
    rw [key (by omega) hk] at b ⊢
    simp at b
    constructor <;> (repeat' split) <;> (repeat' split at b) <;> omega
  · have a := congrArg (fun c => ci c p) heq
    have b := congrArg (fun c => ci c q) heq
    simp only [key hj hp, key hk hp, if_true, hpq, if_false] at a
    simp only [key hj hq, key hk hq, if_true, (fun h => hpq h.symm : ¬ q = p), if_false] at b
    have a2 : (if j % 2 = 1 then d else 0) = (if k % 2 = 1 then d else 0) := by omega
    have b2 : (if j / 2 % 2 = 1 then e else 0) = (if k / 2 % 2 = 1 then e else 0) := by omega
    have a3 : j % 2 = k % 2 := by
      by_cases g1 : j % 2 = 1 <;> by_cases g2 : k % 2 = 1 <;> simp [g1, g2] at a2 <;> omega
    have b3 : j / 2 % 2 = k / 2 % 2 := by
      by_cases g1 : j / 2 % 2 = 1 <;> by_cases g2 : k / 2 % 2 = 1 <;> simp [g1, g2] at b2 <;> omega
    omega
/-- Is it a switch? -/
def cubB (cs : List C) (c : C) (p q : Nat) (d e : Int) (j : Nat) : Bool := decide (cor c p q d e j ∈ cs)
def swB (X Y Z : Int) (cs : List C) (c : C) (p q : Nat) (d e : Int) : Bool :=
  rectB X Y Z c p q d e && (cubB cs c p q d e 0 == cubB cs c p q d e 3 && cubB cs c p q d e 1 == cubB cs c p q d e 2 && cubB cs c p q d e 0 != cubB cs c p q d e 1)
/-- The cubes behind a switch. -/
def swS (Y Z : Int) (s : BitVec 64) (c : C) (p q : Nat) (d e : Int) : Nat → BitVec 64
  | 0 => s
  | i + 1 => swS Y Z s c p q d e i ^^^ (1#64 <<< cellIx Y Z (cor c p q d e i))
def swL (cs : List C) (c : C) (p q : Nat) (d e : Int) : Nat → List C
  | 0 => cs
  | i + 1 => if cor c p q d e i ∈ cs then without (swL cs c p q d e i) (cor c p q d e i) else withC (swL cs c p q d e i) (cor c p q d e i)
theorem sw_mem {X Y Z : Int} {cs : List C} {c : C} {p q : Nat} {d e : Int} (hv : Valid X Y Z cs) (hr : Rect X Y Z c p q d e) : ∀ i, i ≤ 4 → Valid X Y Z (swL cs c p q d e i) ∧ (∀ k, i ≤ k → k < 4 → (cor c p q d e k ∈ swL cs c p q d e i ↔ cor c p q d e k ∈ cs))
  | 0, _ => ⟨hv, fun k _ _ => Iff.rfl⟩
  | i + 1, hi => by
    obtain ⟨h1, h2⟩ := sw_mem hv hr i (by omega)
    have hw := withC_valid h1 (hr.inn i (by omega))
    by_cases hm : cor c p q d e i ∈ cs
    · simp only [swL, if_pos hm]
      refine ⟨without_valid h1 _, fun k hk hk4 => ?_⟩
      have := hr.apart k i hk4 (by omega) (by omega)
      rw [← h2 k (by omega) hk4]
      simp [without, this]
    · simp only [swL, if_neg hm]
      refine ⟨hw.1, fun k hk hk4 => ?_⟩
      have := hr.apart k i hk4 (by omega) (by omega)
      rw [hw.2]
      simp only [this, or_false]
      exact h2 k (by omega) hk4
theorem xor_rep {X Y Z : Int} {s : BitVec 64} {L : List C} (h : Rep X Y Z s L) {c : C} (hc : In X Y Z c) : s ^^^ (1#64 <<< cellIx Y Z c) = if c ∈ L then s &&& ~~~ (1#64 <<< cellIx Y Z c) else s ||| (1#64 <<< cellIx Y Z c) := by
  have hb := h.has hc
  have h64 := cellIx_lt64 h.valid.box hc
  have bit : ∀ j, j < 64 → (1#64 <<< cellIx Y Z c).getLsbD j = decide (j = cellIx Y Z c) := fun j hj => by
    simp only [BitVec.getLsbD_shiftLeft, hj, decide_true, Bool.true_and]
    by_cases g : j < cellIx Y Z c
    · simp [g]; omega
    · simp [g]; rw [show (j - cellIx Y Z c = 0) = (j = cellIx Y Z c) from propext (by omega)]
  by_cases hm : c ∈ L
  · rw [if_pos hm]
    rw [decide_eq_true hm] at hb
    apply BitVec.eq_of_getLsbD_eq
    intro j hj
    simp only [BitVec.getLsbD_xor, BitVec.getLsbD_and, BitVec.getLsbD_not, hj, decide_true, Bool.true_and]
    rw [bit j hj]
    by_cases e : j = cellIx Y Z c
    · subst e; simp [hb]
    · simp [e]
  · rw [if_neg hm]
    rw [decide_eq_false hm] at hb
    apply BitVec.eq_of_getLsbD_eq
    intro j hj
    simp only [BitVec.getLsbD_xor, BitVec.getLsbD_or]
    rw [bit j hj]
    by_cases e : j = cellIx Y Z c
    · subst e; simp [hb]
    · simp [e]
theorem sw_rep {X Y Z : Int} {s : BitVec 64} {cs : List C} {c : C} {p q : Nat} {d e : Int} (h : Rep X Y Z s cs) (hr : Rect X Y Z c p q d e) : ∀ i, i ≤ 4 → Rep X Y Z (swS Y Z s c p q d e i) (swL cs c p q d e i)
  | 0, _ => h
  | i + 1, hi => by
    have ih := sw_rep h hr i (by omega)
    have hm := (sw_mem h.valid hr i (by omega)).2 i (Nat.le_refl _) (by omega)
    have hin := hr.inn i (by omega)
    simp only [swS, swL]
    rw [xor_rep ih hin]
    by_cases g : cor c p q d e i ∈ cs
    · rw [if_pos g, if_pos (hm.mpr g)]; exact ih.without hin
    · rw [if_neg g, if_neg (fun k => g (hm.mp k))]; exact ih.withC hin
theorem swL_len {cs : List C} {c : C} {p q : Nat} {d e : Int} : ∀ i, (swL cs c p q d e i).length ≤ cs.length + i
  | 0 => Nat.le_refl _
  | i + 1 => by
    have ih := swL_len (cs := cs) (c := c) (p := p) (q := q) (d := d) (e := e) i
    simp only [swL]
    split
    · have := without_len (swL cs c p q d e i) (cor c p q d e i); omega
    · have := withC_len (swL cs c p q d e i) (cor c p q d e i); omega
theorem swL_T {cs : List C} {c : C} {p q : Nat} {d e : Int} {i : Nat} (h : cor c p q d e i ∈ cs) : without (swL cs c p q d e i) (cor c p q d e i) = swL cs c p q d e (i + 1) := by simp only [swL, if_pos h]
theorem swL_F {cs : List C} {c : C} {p q : Nat} {d e : Int} {i : Nat} (h : ¬ cor c p q d e i ∈ cs) : withC (swL cs c p q d e i) (cor c p q d e i) = swL cs c p q d e (i + 1) := by simp only [swL, if_neg h]

/-! ### The list of all switches -/
abbrev Sw := C × Nat × Nat
def z5 : List Sw → List Int
  | [] => []
  | e :: l => e.1.1 :: e.1.2.1 :: e.1.2.2 :: (e.2.1 : Int) :: (e.2.2 : Int) :: z5 l
theorem z5_length : ∀ l : List Sw, (z5 l).length = l.length * 5
  | [] => rfl
  | e :: l => by simp [z5, z5_length l]; omega
theorem z5_snoc : ∀ (l : List Sw) (e : Sw), ints (z5 l) ++ [.int .i64 e.1.1, .int .i64 e.1.2.1, .int .i64 e.1.2.2, .int .i64 (e.2.1 : Int), .int .i64 (e.2.2 : Int)] = ints (z5 (l ++ [e]))
  | [], e => rfl
  | d :: l, e => by
    have ih := z5_snoc l e
    simp only [z5, List.cons_append, ints, List.map_cons, List.map_append] at ih ⊢
    rw [ih]
def swN (X Y Z : Int) (cs : List C) (p q : Nat) (c : C) (i k : Nat) : List Sw := ((List.range k).filter fun (j : Nat) => swB X Y Z cs c p q (i : Int) (j : Int)).map fun j => (c, i, j)
def swI (X Y Z : Int) (cs : List C) (p q : Nat) (c : C) : Nat → List Sw
  | 0 => []
  | i + 1 => swI X Y Z cs p q c i ++ swN X Y Z cs p q c i 4
def swA (X Y Z : Int) (cs : List C) (p q : Nat) : Nat → List Sw
  | 0 => []
  | m + 1 => swA X Y Z cs p q m ++ swI X Y Z cs p q (at3 (allC X Y Z) m) 4
def sws (X Y Z : Int) (cs : List C) (p q : Nat) (m i k : Nat) : List Sw := swA X Y Z cs p q m ++ (swI X Y Z cs p q (at3 (allC X Y Z) m) i ++ swN X Y Z cs p q (at3 (allC X Y Z) m) i k)
def swAll (X Y Z : Int) (cs : List C) (p q : Nat) : List Sw := swA X Y Z cs p q (vol X Y Z)
variable {X Y Z : Int} {cs : List C} {p q : Nat}
theorem swB_0 {c : C} {d e : Int} (h : ¬ (1 ≤ d ∧ d ≤ 4) ∨ ¬ (1 ≤ e ∧ e ≤ 4)) : swB X Y Z cs c p q d e = false := by
  have : rectB X Y Z c p q d e = false := by
    unfold rectB
    rcases h with h | h
    · rw [show within d 1 4 = false from by simp [within]; omega]; rfl
    · rw [show within e 1 4 = false from by simp [within]; omega]; simp
  unfold swB; rw [this]; rfl
theorem swN_T {c : C} {i k : Nat} (h : swB X Y Z cs c p q (i : Int) (k : Int) = true) : swN X Y Z cs p q c i (k + 1) = swN X Y Z cs p q c i k ++ [(c, i, k)] := by
  unfold swN; rw [List.range_succ, List.filter_append]; simp [List.filter, h]
theorem swN_F {c : C} {i k : Nat} (h : swB X Y Z cs c p q (i : Int) (k : Int) = false) : swN X Y Z cs p q c i (k + 1) = swN X Y Z cs p q c i k := by
  unfold swN; rw [List.range_succ, List.filter_append]; simp [List.filter, h]
theorem swN_1 (c : C) (i : Nat) : swN X Y Z cs p q c i 1 = [] := by
  rw [swN_F (swB_0 (.inr (by simp)))]; rfl
theorem swN_len (c : C) (i k : Nat) : (swN X Y Z cs p q c i k).length ≤ k := by
  unfold swN; rw [List.length_map]; exact Nat.le_trans (List.length_filter_le _ _) (by simp)
theorem swI_len (c : C) : ∀ i, (swI X Y Z cs p q c i).length ≤ 4 * i
  | 0 => Nat.le_refl _
  | i + 1 => by have := swI_len c i; have := swN_len (X := X) (Y := Y) (Z := Z) (cs := cs) (p := p) (q := q) c i 4; simp only [swI, List.length_append]; omega
theorem swA_len : ∀ m, (swA X Y Z cs p q m).length ≤ 16 * m
  | 0 => Nat.le_refl _
  | m + 1 => by have := swA_len m; have := swI_len (X := X) (Y := Y) (Z := Z) (cs := cs) (p := p) (q := q) (at3 (allC X Y Z) m) 4; simp only [swA, List.length_append]; omega
theorem sws_len (m i k : Nat) : (sws X Y Z cs p q m i k).length ≤ 16 * m + 4 * i + k := by
  have h1 := swA_len (X := X) (Y := Y) (Z := Z) (cs := cs) (p := p) (q := q) m
  have h2 := swI_len (X := X) (Y := Y) (Z := Z) (cs := cs) (p := p) (q := q) (at3 (allC X Y Z) m) i
  have h3 := swN_len (X := X) (Y := Y) (Z := Z) (cs := cs) (p := p) (q := q) (at3 (allC X Y Z) m) i k
  simp only [sws, List.length_append]; omega
theorem sws_T {m i k : Nat} (h : swB X Y Z cs (at3 (allC X Y Z) m) p q (i : Int) (k : Int) = true) : sws X Y Z cs p q m i (k + 1) = sws X Y Z cs p q m i k ++ [(at3 (allC X Y Z) m, i, k)] := by
  unfold sws; rw [swN_T h]; simp
theorem sws_F {m i k : Nat} (h : swB X Y Z cs (at3 (allC X Y Z) m) p q (i : Int) (k : Int) = false) : sws X Y Z cs p q m i (k + 1) = sws X Y Z cs p q m i k := by
  unfold sws; rw [swN_F h]
theorem sws_start (m : Nat) : sws X Y Z cs p q m 1 1 = swA X Y Z cs p q m := by
  unfold sws; rw [swN_1]
  have : swI X Y Z cs p q (at3 (allC X Y Z) m) 1 = [] := by
    simp only [swI, List.nil_append]
    unfold swN
    rw [List.map_eq_nil_iff, List.filter_eq_nil_iff]
    intro j _
    rw [swB_0 (.inl (by simp))]; simp
  rw [this]; simp
theorem sws_k (m i : Nat) : sws X Y Z cs p q m i 4 = sws X Y Z cs p q m (i + 1) 1 := by
  unfold sws; rw [swN_1]; simp [swI]
theorem sws_i (m : Nat) : sws X Y Z cs p q m 4 1 = swA X Y Z cs p q (m + 1) := by
  unfold sws; rw [swN_1]; simp [swA]
theorem swB_far {c : C} {d e : Int} (hp : p < 3) (hq : q < 3) (hpq : p ≠ q) (hX : Box X Y Z) (h : ci (X, Y, Z) p ≤ d ∨ ci (X, Y, Z) q ≤ e) : swB X Y Z cs c p q d e = false := by
  cases hr : rectB X Y Z c p q d e with
  | false => unfold swB; rw [hr]; rfl
  | true =>
    exfalso
    have hR := rect_of hp hq hpq hX hr
    have hc0 : In X Y Z c := hR.inn 0 (by omega)
    have h3 := hR.inn 3 (by omega)
    have a := (in_ci.mp h3) p hp
    have b := (in_ci.mp h3) q hq
    have a0 := (in_ci.mp hc0) p hp
    have b0 := (in_ci.mp hc0) q hq
    rw [cor_ci hp hq hpq hX hc0 hR.db hR.eb (by omega) hp] at a
    rw [cor_ci hp hq hpq hX hc0 hR.db hR.eb (by omega) hq] at b
    simp [hpq] at a
    simp [(fun h => hpq h.symm : ¬ q = p)] at b
    omega
theorem sws_kend (hp : p < 3) (hq : q < 3) (hpq : p ≠ q) (hX : Box X Y Z) {m i k : Nat} (h1 : ci (X, Y, Z) q ≤ (k : Int)) (h2 : k ≤ 4) : sws X Y Z cs p q m i k = sws X Y Z cs p q m (i + 1) 1 := by
  rw [← sws_k]
  have : ∀ r, k + r ≤ 4 → sws X Y Z cs p q m i (k + r) = sws X Y Z cs p q m i k := by
    intro r
    induction r with
    | zero => intro _; rfl
    | succ r ih => intro hr; rw [show k + (r + 1) = (k + r) + 1 by omega, sws_F (swB_far hp hq hpq hX (.inr (by omega))), ih (by omega)]
  have := this (4 - k) (by omega)
  rw [show k + (4 - k) = 4 by omega] at this
  exact this.symm
theorem sws_iend (hp : p < 3) (hq : q < 3) (hpq : p ≠ q) (hX : Box X Y Z) {m i : Nat} (h1 : ci (X, Y, Z) p ≤ (i : Int)) (h2 : i ≤ 4) : sws X Y Z cs p q m i 1 = swA X Y Z cs p q (m + 1) := by
  rw [← sws_i]
  have : ∀ r, i + r ≤ 4 → sws X Y Z cs p q m (i + r) 1 = sws X Y Z cs p q m i 1 := by
    intro r
    induction r with
    | zero => intro _; rfl
    | succ r ih =>
      intro hr
      rw [show i + (r + 1) = (i + r) + 1 by omega, ← sws_k, ← ih (by omega)]
      have : ∀ k, k + 1 ≤ 4 → sws X Y Z cs p q m (i + r) (k + 1) = sws X Y Z cs p q m (i + r) 1 := by
        intro k
        induction k with
        | zero => intro _; rfl
        | succ k ih2 => intro hk; rw [sws_F (swB_far hp hq hpq hX (.inl (by omega))), ih2 (by omega)]
      exact this 3 (by omega)
  have := this (4 - i) (by omega)
  rw [show i + (4 - i) = 4 by omega] at this
  exact this.symm
def w5 (zs : List Int) (i : Nat) : List Int := (zs.drop (i * 5)).take 5
theorem w5_len {zs : List Int} {i m : Nat} (hl : zs.length = m * 5) (h : i < m) : (w5 zs i).length = 5 := by
  unfold w5; rw [List.length_take, List.length_drop]; omega
theorem ints_w5 {zs : List Int} {i m : Nat} (hl : zs.length = m * 5) (h : i < m) : 0 + i * 5 + 5 ≤ (ints zs).length ∧ ((ints zs).drop (0 + i * 5)).take 5 = ints (w5 zs i) := by
  refine ⟨by rw [ints_length]; omega, ?_⟩
  unfold w5 ints
  rw [Nat.zero_add, List.map_take, List.map_drop]
theorem markV_z5 (k : Int) (l : List Sw) : markV k (5 * l.length) (ints (z5 l)) = ints (upto k (5 * l.length)) := by
  have h := z5_length l
  rw [show 5 * l.length = (z5 l).length by omega, markV_ints]
theorem at1_take {zs : List Int} {i m : Nat} (h : i < m) : at1 (zs.take m) i = at1 zs i := by
  simp [at1, List.getD, List.getElem?_take, h]
theorem sw_rect {c : C} {d e : Int} (hp : p < 3) (hq : q < 3) (hpq : p ≠ q) (hX : Box X Y Z) (h : swB X Y Z cs c p q d e = true) : Rect X Y Z c p q d e := by
  unfold swB at h
  rw [Bool.and_eq_true] at h
  exact rect_of hp hq hpq hX h.1
theorem in4_list {c : C} {p q : Nat} {d e : Int} (h : In X Y Z (cor c p q d e 0)) (hX : Box X Y Z) : ([c.1, c.2.1, c.2.2].all fun z => within z 0 4) = true := by
  have h2 : In X Y Z c := h
  unfold In at h2
  unfold Box at hX
  simp [within]
  omega
theorem ints_ltT (n : Nat) (a : List Int) : ltT n (.agg (ints a).toArray) = true := by
  simp [ltT, ltV, ints, ltC, ltA]
end Go.Sep
/- Clusters: cubes that touch, with corners, too. -/
namespace Go.Sep
open Go
set_option linter.unusedVariables false
set_option linter.unusedSimpArgs false
/-- Two cells touch. -/
def touF (c e : C) : Bool := within (c.1 - e.1) (-1) 1 && within (c.2.1 - e.2.1) (-1) 1 && within (c.2.2 - e.2.2) (-1) 1
theorem tou_comm (c e : C) : touF c e = touF e c := by
  unfold touF within
  rw [Bool.eq_iff_iff]
  simp
  omega
theorem tou_no {c e : C} {k : Nat} (hk : k < 3) (h : within (ci c k - ci e k) (-1) 1 = false) : touF c e = false := by
  unfold touF
  obtain rfl | rfl | rfl : k = 0 ∨ k = 1 ∨ k = 2 := by omega
  · rw [show within (c.1 - e.1) (-1) 1 = false from h]; rfl
  · rw [show within (c.2.1 - e.2.1) (-1) 1 = false from h]; simp
  · rw [show within (c.2.2 - e.2.2) (-1) 1 = false from h]; simp
theorem tou_yes {c e : C} (h : ∀ k, k < 3 → within (ci c k - ci e k) (-1) 1 = true) : touF c e = true := by
  unfold touF
  rw [show within (c.1 - e.1) (-1) 1 = true from h 0 (by omega), show within (c.2.1 - e.2.1) (-1) 1 = true from h 1 (by omega), show within (c.2.2 - e.2.2) (-1) 1 = true from h 2 (by omega)]; rfl
namespace Clu
def adjF (c e : C) : Bool := touF e c
def adjR (c e : C) : Prop := adjF c e = true
theorem adjR_symm : ∀ a b, adjR a b → adjR b a := fun a b h => by unfold adjR adjF at *; rw [tou_comm]; exact h
/-- Cells of a row to which neighbours in it lead from some of its cells. -/
noncomputable def rchL (L B : List C) : List C := by
  classical exact L.filter fun c => decide (Rch adjR (fun x => x ∈ L) (fun x => x ∈ B) c)
open Classical in
theorem rchL_mem {L B : List C} {c : C} : c ∈ rchL L B ↔ Rch adjR (fun x => x ∈ L) (fun x => x ∈ B) c := by
  unfold rchL
  rw [List.mem_filter, decide_eq_true_eq]
  exact ⟨fun h => h.2, fun h => ⟨h.mem, h⟩⟩
theorem rchL_valid {X Y Z : Int} {L : List C} (h : Valid X Y Z L) (B : List C) : Valid X Y Z (rchL L B) := h.filter _

/-! ### The program's growth, round after round -/
def nxtN (X Y Z : Int) (s t : BitVec 64) (M : List C) : Nat → BitVec 64
  | 0 => s
  | i + 1 => nxtN X Y Z s t M i ||| (t &&& thoseTo Y Z (touF (at3 M i)) (vol X Y Z))
theorem nxt_rep {X Y Z : Int} {s t : BitVec 64} {M L : List C} (h : Rep X Y Z s M) (ht : Rep X Y Z t L) : ∀ i, i ≤ M.length → ∃ N, Rep X Y Z (nxtN X Y Z s t M i) N ∧ ∀ c, c ∈ N ↔ c ∈ M ∨ (c ∈ L ∧ ∃ j, j < i ∧ touF (at3 M j) c = true)
  | 0, _ => ⟨M, h, fun c => by simp⟩
  | i + 1, hi => by
    obtain ⟨N, h1, h2⟩ := nxt_rep h ht i (by omega)
    refine ⟨_, h1.union (ht.those_inter (touF (at3 M i))), fun c => ?_⟩
    simp only [List.mem_filter, Bool.or_eq_true, decide_eq_true_eq, h2]
    constructor
    · rintro ⟨_, (g | ⟨g1, j, g2, g3⟩) | ⟨g1, g2⟩⟩
      · exact .inl g
      · exact .inr ⟨g1, j, by omega, g3⟩
      · exact .inr ⟨g1, i, by omega, g2⟩
    · rintro (g | ⟨g1, j, g2, g3⟩)
      · exact ⟨(allC_mem h.valid.box).mpr (h.valid.inn c g), .inl (.inl g)⟩
      · refine ⟨(allC_mem h.valid.box).mpr (ht.valid.inn c g1), ?_⟩
        rcases Nat.lt_or_ge j i with e | e
        · exact .inl (.inr ⟨g1, j, e, g3⟩)
        · obtain rfl : j = i := by omega
          exact .inr ⟨g1, g3⟩
/-- A set in the making: it has the first cells, and only cells to which neighbours lead. -/
structure Grw (X Y Z : Int) (B L : List C) (s : BitVec 64) (M : List C) : Prop where
  rep : Rep X Y Z s M
  sub : ∀ c ∈ B, c ∈ M
  rch : ∀ c ∈ M, Rch adjR (fun x => x ∈ L) (fun x => x ∈ B) c
theorem Grw.start {X Y Z : Int} {B L : List C} {s : BitVec 64} (h : Rep X Y Z s B) (hB : ∀ c ∈ B, c ∈ L) : Grw X Y Z B L s B := ⟨h, fun c hc => hc, fun c hc => .base (hB c hc) hc⟩
theorem Grw.next {X Y Z : Int} {B L M : List C} {s t : BitVec 64} (h : Grw X Y Z B L s M) (ht : Rep X Y Z t L) : ∃ M', Grw X Y Z B L (nxtN X Y Z s t M M.length) M' ∧ (∀ c ∈ M, c ∈ M') ∧ (∀ c ∈ M, ∀ e ∈ L, adjR c e → e ∈ M') := by
  obtain ⟨N, h1, h2⟩ := nxt_rep h.rep ht M.length (Nat.le_refl _)
  refine ⟨N, ⟨h1, fun c hc => (h2 c).mpr (.inl (h.sub c hc)), fun c hc => ?_⟩, fun c hc => (h2 c).mpr (.inl hc), fun c hc e he ha => ?_⟩
  · rcases (h2 c).mp hc with g | ⟨g1, j, g2, g3⟩
    · exact h.rch c g
    · refine .step (h.rch _ (at3_mem g2)) ?_ g1
      show touF c (at3 M j) = true
      rw [tou_comm]; exact g3
  · obtain ⟨j, hj, e1⟩ := mem_at3 hc
    refine (h2 e).mpr (.inr ⟨he, j, hj, ?_⟩)
    rw [e1, tou_comm]; exact ha
theorem Grw.done {X Y Z : Int} {B L M : List C} {s t : BitVec 64} (h : Grw X Y Z B L s M) (ht : Rep X Y Z t L) (e : nxtN X Y Z s t M M.length = s) : Rep X Y Z s (rchL L B) := by
  obtain ⟨M', h1, h2, h3⟩ := h.next ht
  rw [e] at h1
  have e2 : M' = M := by rw [← h1.rep.cells, h.rep.cells]
  subst e2
  refine h.rep.congr (rchL_valid ht.valid B) fun c hc => ?_
  rw [rchL_mem]
  refine ⟨h.rch c, fun g => ?_⟩
  induction g with
  | base _ h5 => exact h.sub _ h5
  | step g1 g2 g3 ih => exact h3 _ (ih (ht.valid.inn _ g1.mem)) _ g3 g2
theorem Grw.grow {X Y Z : Int} {B L M : List C} {s t : BitVec 64} (h : Grw X Y Z B L s M) (ht : Rep X Y Z t L) (e : ¬ nxtN X Y Z s t M M.length = s) : ∃ M', Grw X Y Z B L (nxtN X Y Z s t M M.length) M' ∧ M.length < M'.length := by
  obtain ⟨M', h1, h2, _⟩ := h.next ht
  refine ⟨M', h1, ?_⟩
  have hle := h.rep.valid.len_sub h1.rep.valid h2
  rcases Nat.lt_or_ge M.length M'.length with g | g
  · exact g
  · exact absurd (by
      have := h.rep.valid.eq_len h1.rep.valid h2 g
      subst this
      exact h1.rep.eq h.rep) e

/-! ### The reference's search, cell after cell -/
/-- `q`: the cells found, in the order in which they were found; the first `n` of them have been asked, the neighbours `k` of the next one, too; `M`: what is left; `P`: the first `n` in order. -/
structure Srch (X Y Z : Int) (L : List C) (c0 : C) (q M P : List C) (n : Nat) : Prop where
  vM : Valid X Y Z M
  vP : Valid X Y Z P
  qL : ∀ c ∈ q, c ∈ L
  left : ∀ c, c ∈ M ↔ c ∈ L ∧ c ∉ q
  part : ∀ c, c ∈ P ↔ ∃ j, j < n ∧ j < q.length ∧ at3 q j = c
  rch : ∀ c ∈ q, Rch adjR (fun x => x ∈ L) (fun x => x = c0) c
  cls : ∀ j, j < n → j < q.length → ∀ e ∈ L, adjR (at3 q j) e → e ∈ q
  seed : c0 ∈ q
  nodup : q.Nodup
theorem Srch.start {X Y Z : Int} {L : List C} (h : Valid X Y Z L) (hne : 0 < L.length) : Srch X Y Z L (at3 L 0) [at3 L 0] (without L (at3 L 0)) [] 0 := by
  have hm := at3_mem hne
  refine ⟨without_valid h _, valid_nil h.box, fun c hc => by simp at hc; rw [hc]; exact hm, fun c => ?_, fun c => by simp, fun c hc => by simp at hc; rw [hc]; exact .base hm rfl, fun j hj => absurd hj (by omega), by simp, by simp⟩
  simp only [without, List.mem_filter, List.mem_singleton, Bool.not_eq_true', decide_eq_false_iff_not]
/-- The cell `n` is put to the part. -/
theorem Srch.put {X Y Z : Int} {L : List C} {c0 : C} {q M P : List C} {n : Nat} (h : Srch X Y Z L c0 q M P n) (hL : Valid X Y Z L) (hn : n < q.length) :
    Valid X Y Z (withC P (at3 q n)) ∧ ∀ c, c ∈ withC P (at3 q n) ↔ ∃ j, j < n + 1 ∧ j < q.length ∧ at3 q j = c := by
  obtain ⟨h1, h2⟩ := withC_valid h.vP (hL.inn _ (h.qL _ (at3_mem hn)))
  refine ⟨h1, fun c => ?_⟩
  rw [h2, h.part]
  constructor
  · rintro (⟨j, g1, g2, g3⟩ | g)
    · exact ⟨j, by omega, g2, g3⟩
    · exact ⟨n, by omega, hn, g.symm⟩
  · rintro ⟨j, g1, g2, g3⟩
    rcases Nat.lt_or_ge j n with g | g
    · exact .inl ⟨j, g, g2, g3⟩
    · obtain rfl : j = n := by omega
      exact .inr g3.symm
/-- The cells that are left, one after the other. -/
structure Srch2 (X Y Z : Int) (L : List C) (c0 : C) (q M P : List C) (n i : Nat) (q' M' : List C) : Prop where
  vM : Valid X Y Z M'
  eq : q' = q ++ (M.take i).filter (adjF (at3 q n))
  left : ∀ c, c ∈ M' ↔ c ∈ L ∧ c ∉ q'
  nodup : q'.Nodup
theorem Srch2.start {X Y Z : Int} {L : List C} {c0 : C} {q M P : List C} {n : Nat} (h : Srch X Y Z L c0 q M P n) : Srch2 X Y Z L c0 q M P n 0 q M := ⟨h.vM, by simp, h.left, h.nodup⟩
theorem Srch2.next_F {X Y Z : Int} {L : List C} {c0 : C} {q M P : List C} {n : Nat} {i : Nat} {q' M' : List C} (k : Srch2 X Y Z L c0 q M P n i q' M') (hi : i < M.length) (hf : touF (at3 M i) (at3 q n) = false) :
    Srch2 X Y Z L c0 q M P n (i + 1) q' M' := by
  refine ⟨k.vM, ?_, k.left, k.nodup⟩
  rw [k.eq, take_succ3 hi, List.filter_append, show [at3 M i].filter (adjF (at3 q n)) = [] from by simp only [List.filter, show adjF (at3 q n) (at3 M i) = false from hf], List.append_nil]
theorem Srch2.next_T {X Y Z : Int} {L : List C} {c0 : C} {q M P : List C} {n : Nat} {i : Nat} {q' M' : List C} (h : Srch X Y Z L c0 q M P n) (k : Srch2 X Y Z L c0 q M P n i q' M') (hi : i < M.length) (hf : touF (at3 M i) (at3 q n) = true) :
    Srch2 X Y Z L c0 q M P n (i + 1) (q' ++ [at3 M i]) (without M' (at3 M i)) := by
  have hM := at3_mem hi
  have hN : M.Nodup := (h.vM.rise.imp (fun {a b} hab => (by intro e; subst e; exact Nat.lt_irrefl _ hab) : ∀ {a b : Nat}, a < b → a ≠ b) |> fun x => by
    have := List.pairwise_map.mp x
    exact this.imp fun {a b} hab e => hab (by rw [e]))
  have hnq : at3 M i ∉ q' := by
    rw [k.eq]
    intro g
    rcases List.mem_append.mp g with g | g
    · exact ((h.left _).mp hM).2 g
    · have g := (List.mem_filter.mp g).1
      obtain ⟨j, hj, e⟩ := List.getElem_of_mem g
      rw [List.getElem_take] at e
      have hj' : j < i := by simp at hj; omega
      rw [at3_get hi] at e
      have hjl : j < M.length := by omega
      exact List.pairwise_iff_getElem.mp hN j i hjl hi hj' e
  refine ⟨without_valid k.vM _, ?_, fun c => ?_, ?_⟩
  · rw [k.eq, take_succ3 hi, List.filter_append, show [at3 M i].filter (adjF (at3 q n)) = [at3 M i] from by simp only [List.filter, show adjF (at3 q n) (at3 M i) = true from hf], List.append_assoc]
  · simp only [without, List.mem_filter, k.left, List.mem_append, List.mem_singleton, Bool.not_eq_true', decide_eq_false_iff_not, not_or, and_assoc]
  · rw [List.nodup_append]
    refine ⟨k.nodup, by simp, fun a ha b hb => ?_⟩
    simp at hb; subst hb
    intro e; subst e; exact hnq ha
theorem Srch2.done {X Y Z : Int} {L : List C} {c0 : C} {q M P : List C} {n : Nat} {i : Nat} {q' M' : List C} (h : Srch X Y Z L c0 q M P n) (hL : Valid X Y Z L) (hn : n < q.length) (k : Srch2 X Y Z L c0 q M P n i q' M') (hi : i = M.length) :
    Srch X Y Z L c0 q' M' (withC P (at3 q n)) (n + 1) := by
  subst hi
  have eq := k.eq
  rw [List.take_length] at eq
  obtain ⟨p1, p2⟩ := h.put hL hn
  have hat : ∀ j, j < q.length → at3 q' j = at3 q j := fun j hj => by rw [eq]; exact at3_app_l hj
  have hlen : q.length ≤ q'.length := by rw [eq]; simp
  have hN : ∀ c ∈ M.filter (adjF (at3 q n)), c ∈ L ∧ adjR (at3 q n) c := fun c hc => ⟨((h.left c).mp (List.mem_filter.mp hc).1).1, (List.mem_filter.mp hc).2⟩
  refine ⟨k.vM, p1, fun c hc => ?_, k.left, fun c => ?_, fun c hc => ?_, fun j hj hjl e he ha => ?_, by rw [eq]; exact List.mem_append_left _ h.seed, k.nodup⟩
  · rw [eq] at hc
    rcases List.mem_append.mp hc with g | g
    · exact h.qL c g
    · exact (hN c g).1
  · rw [p2]
    constructor
    · rintro ⟨j, g1, g2, g3⟩; exact ⟨j, g1, by omega, by rw [hat j g2]; exact g3⟩
    · rintro ⟨j, g1, g2, g3⟩; exact ⟨j, g1, by omega, by rw [← hat j (by omega)]; exact g3⟩
  · rw [eq] at hc
    rcases List.mem_append.mp hc with g | g
    · exact h.rch c g
    · exact .step (h.rch _ (at3_mem hn)) (hN c g).2 (hN c g).1
  · rw [hat j (by omega)] at ha
    rw [eq]
    rcases Nat.lt_or_ge j n with g | g
    · exact List.mem_append_left _ (h.cls j g (by omega) e he ha)
    · obtain rfl : j = n := by omega
      by_cases hq : e ∈ q
      · exact List.mem_append_left _ hq
      · exact List.mem_append_right _ (List.mem_filter.mpr ⟨(h.left e).mpr ⟨he, hq⟩, ha⟩)
theorem Srch.all {X Y Z : Int} {L : List C} {c0 : C} {q M P : List C} {n : Nat} (h : Srch X Y Z L c0 q M P n) (hL : Valid X Y Z L) (hn : n = q.length) : P = rchL L [c0] ∧ M = L.filter fun c => !decide (c ∈ rchL L [c0]) := by
  subst hn
  have key : ∀ c, c ∈ q ↔ c ∈ rchL L [c0] := fun c => by
    rw [rchL_mem]
    constructor
    · intro g; exact (h.rch c g).mono fun x hx => by rw [hx]; simp
    · intro g
      induction g with
      | base _ h5 => simp at h5; rw [h5]; exact h.seed
      | step g1 g2 g3 ih =>
        obtain ⟨j, hj, e⟩ := mem_at3 ih
        exact h.cls j hj hj _ g3 (by rw [e]; exact g2)
  constructor
  · refine h.vP.ext (rchL_valid hL _) fun c hc => ?_
    rw [h.part, ← key]
    constructor
    · rintro ⟨j, _, g2, g3⟩; rw [← g3]; exact at3_mem g2
    · intro g; obtain ⟨j, hj, e⟩ := mem_at3 g; exact ⟨j, hj, hj, e⟩
  · refine h.vM.ext (hL.filter _) fun c hc => ?_
    rw [h.left, List.mem_filter]
    simp [key]
theorem Srch.q_len {X Y Z : Int} {L : List C} {c0 : C} {q M P : List C} {n : Nat} (h : Srch X Y Z L c0 q M P n) (hL : Valid X Y Z L) : q.length ≤ L.length := by
  exact nodup_len h.nodup h.qL
theorem Srch2.q_len {X Y Z : Int} {L : List C} {c0 : C} {q M P : List C} {n : Nat} {i : Nat} {q' M' : List C} (h : Srch X Y Z L c0 q M P n) (k : Srch2 X Y Z L c0 q M P n i q' M') : q'.length ≤ L.length := by
  refine nodup_len k.nodup fun c hc => ?_
  rw [k.eq] at hc
  rcases List.mem_append.mp hc with g | g
  · exact h.qL c g
  · exact ((h.left c).mp (List.mem_of_mem_take (List.mem_filter.mp g).1)).1
/-! ### All clusters -/
noncomputable def restL (L : List C) : List C := L.filter fun c => !decide (c ∈ rchL L [at3 L 0])
noncomputable def leftN (L : List C) : Nat → List C
  | 0 => L
  | k + 1 => restL (leftN L k)
noncomputable def partN (L : List C) (k : Nat) : List C := rchL (leftN L k) [at3 (leftN L k) 0]
noncomputable def partsK (L : List C) (k : Nat) : List (List C) := (List.range k).map (partN L)
noncomputable def partsF : Nat → List C → List (List C)
  | 0, _ => []
  | f + 1, L => if L = [] then [] else rchL L [at3 L 0] :: partsF f (restL L)
noncomputable def partsL (L : List C) : List (List C) := partsF L.length L
theorem restL_valid {X Y Z : Int} {L : List C} (h : Valid X Y Z L) : Valid X Y Z (restL L) := h.filter _
theorem leftN_valid {X Y Z : Int} {L : List C} (h : Valid X Y Z L) : ∀ k, Valid X Y Z (leftN L k)
  | 0 => h
  | k + 1 => restL_valid (leftN_valid h k)
theorem partN_valid {X Y Z : Int} {L : List C} (h : Valid X Y Z L) (k : Nat) : Valid X Y Z (partN L k) := rchL_valid (leftN_valid h k) _
theorem head_rch {L : List C} (h : 0 < L.length) : at3 L 0 ∈ rchL L [at3 L 0] := rchL_mem.mpr (.base (at3_mem h) (by simp))
theorem restL_len {L : List C} (h : 0 < L.length) : (restL L).length < L.length := by
  unfold restL
  exact List.length_filter_lt_length_iff_exists.mpr ⟨_, at3_mem h, by rw [decide_eq_true (head_rch h)]; decide⟩
theorem leftN_len {L : List C} : ∀ k, (∀ j, j < k → 0 < (leftN L j).length) → (leftN L k).length + k ≤ L.length
  | 0, _ => by simp [leftN]
  | k + 1, h => by
    have ih := leftN_len k fun j hj => h j (by omega)
    have := restL_len (h k (by omega))
    simp only [leftN]; omega
theorem leftN_shift (L : List C) : ∀ k, leftN L (k + 1) = leftN (restL L) k
  | 0 => rfl
  | k + 1 => by simp only [leftN]; rw [← leftN_shift L k]; rfl
theorem partN_shift (L : List C) (k : Nat) : partN L (k + 1) = partN (restL L) k := by unfold partN; rw [leftN_shift]
theorem partsK_succ (L : List C) (k : Nat) : partsK L (k + 1) = partsK L k ++ [partN L k] := by simp [partsK, List.range_succ]
theorem parts_end : ∀ (k f : Nat) (L : List C), k ≤ f → (leftN L k).length = 0 → (∀ j, j < k → 0 < (leftN L j).length) → partsF f L = partsK L k
  | 0, f, L, _, h0, _ => by
    have : L = [] := List.eq_nil_of_length_eq_zero h0
    subst this
    cases f with
    | zero => rfl
    | succ f => simp [partsF, partsK]
  | k + 1, f, L, hf, h0, hj => by
    obtain ⟨f, rfl⟩ : ∃ g, f = g + 1 := ⟨f - 1, by omega⟩
    have hne : L ≠ [] := fun e => by have := hj 0 (by omega); subst e; simp [leftN] at this
    have ih := parts_end k f (restL L) (by omega) (by rw [← leftN_shift]; exact h0) fun j hjk => by rw [← leftN_shift]; exact hj (j + 1) (by omega)
    simp only [partsF]
    rw [if_neg hne, ih]
    unfold partsK
    rw [List.range_succ_eq_map, List.map_cons, List.map_map]
    congr 1
    refine List.map_congr_left fun j _ => ?_
    simp only [Function.comp, Nat.succ_eq_add_one]
    exact (partN_shift L j).symm
theorem partsL_end {L : List C} {k : Nat} (h0 : (leftN L k).length = 0) (hj : ∀ j, j < k → 0 < (leftN L j).length) : partsL L = partsK L k :=
  parts_end k _ L (by have := leftN_len k hj; omega) h0 hj
theorem parts_ex : ∀ (m : Nat) (L : List C), L.length ≤ m → ∃ k, (leftN L k).length = 0 ∧ ∀ j, j < k → 0 < (leftN L j).length
  | 0, L, h => ⟨0, by simp only [leftN]; omega, fun j hj => absurd hj (by omega)⟩
  | m + 1, L, h => by
    rcases Nat.eq_zero_or_pos L.length with e | e
    · exact ⟨0, by simp only [leftN]; omega, fun j hj => absurd hj (by omega)⟩
    · obtain ⟨k, h1, h2⟩ := parts_ex m (restL L) (by have := restL_len e; omega)
      refine ⟨k + 1, by rw [leftN_shift]; exact h1, fun j hj => ?_⟩
      cases j with
      | zero => exact e
      | succ j => rw [leftN_shift]; exact h2 j (by omega)
/-- How many parts there are. -/
noncomputable def prtN (L : List C) : Nat := (partsL L).length
theorem prtN_end {L : List C} {k : Nat} (h0 : (leftN L k).length = 0) (hj : ∀ j, j < k → 0 < (leftN L j).length) : prtN L = k := by
  unfold prtN; rw [partsL_end h0 hj]; simp [partsK]
theorem prtN_left (L : List C) : (leftN L (prtN L)).length = 0 ∧ ∀ j, j < prtN L → 0 < (leftN L j).length := by
  obtain ⟨k, h1, h2⟩ := parts_ex _ L (Nat.le_refl _)
  rw [prtN_end h1 h2]; exact ⟨h1, h2⟩
theorem prtN_le (L : List C) : prtN L ≤ L.length := by
  have := leftN_len (prtN L) (prtN_left L).2; omega
theorem parts_row {L : List C} {k : Nat} (h : k < prtN L) : (partN L k).length ≤ L.length := by
  have h1 : (partN L k).length ≤ (leftN L k).length := by unfold partN rchL; exact List.length_filter_le _ _
  have h2 := leftN_len k fun j hj => (prtN_left L).2 j (by omega)
  omega
theorem left_mask {X Y Z : Int} {L : List C} (hv : Valid X Y Z L) (k : Nat) : mask Y Z (leftN L k) &&& ~~~ mask Y Z (partN L k) = mask Y Z (leftN L (k + 1)) := by
  have h := (rep_mask (leftN_valid hv k)).diff (rep_mask (partN_valid hv k))
  exact h.toMask
end Clu
end Go.Sep
/- Cells that are outside, cells that are enclosed. -/
namespace Go.Sep
open Go
set_option linter.unusedVariables false
set_option linter.unusedSimpArgs false

variable {X Y Z : Int}
/-! ### The rim -/
def rimF (X Y Z : Int) (c : C) : Bool := decide (((popU (nearS X Y Z c) : Nat) : Int) < 6)
theorem nbr_inj {c : C} {m k : Nat} (hm : m < 6) (hk : k < 6) (h : nbr c m = nbr c k) : m = k := by
  obtain rfl | rfl | rfl | rfl | rfl | rfl : m = 0 ∨ m = 1 ∨ m = 2 ∨ m = 3 ∨ m = 4 ∨ m = 5 := by omega
  all_goals
    obtain rfl | rfl | rfl | rfl | rfl | rfl : k = 0 ∨ k = 1 ∨ k = 2 ∨ k = 3 ∨ k = 4 ∨ k = 5 := by omega
    all_goals first
      | rfl
      | (exfalso; simp [nbr, movC, addC, sgn] at h; try omega)
theorem nbr_back (c : C) {m : Nat} (hm : m < 6) : ∃ k, k < 6 ∧ nbr (nbr c m) k = c := by
  have h := (apart_nbr (nbr c m) c).mpr ⟨m, hm, rfl⟩
  rw [apart_comm] at h
  exact (apart_nbr c (nbr c m)).mp h
theorem adj_nbr {c e : C} : adjR c e ↔ ∃ m, m < 6 ∧ nbr c m = e := apart_nbr e c
theorem valid_nodup {L : List C} (h : Valid X Y Z L) : L.Nodup := by
  have := List.pairwise_map.mp (h.rise.imp (fun {a b} hab => (by intro e; subst e; exact Nat.lt_irrefl _ hab) : ∀ {a b : Nat}, a < b → a ≠ b))
  exact this.imp fun {a b} hab e => hab (by rw [e])
theorem rim_iff (hX : Box X Y Z) {c : C} : rimF X Y Z c = true ↔ ∃ m, m < 6 ∧ ¬ In X Y Z (nbr c m) := by
  unfold rimF
  rw [decide_eq_true_eq, (rep_near hX c).pop]
  have hnd : ((List.range 6).map (nbr c)).Nodup := by
    rw [List.nodup_iff_pairwise_ne, List.pairwise_map]
    refine List.Pairwise.imp_of_mem (fun {a b} ha hb hab h => ?_) List.nodup_range
    exact hab (nbr_inj (List.mem_range.mp ha) (List.mem_range.mp hb) h)
  have hmem : ∀ e, e ∈ (allC X Y Z).filter (adjF c) ↔ In X Y Z e ∧ ∃ m, m < 6 ∧ nbr c m = e := fun e => by
    rw [List.mem_filter, allC_mem hX, adjF, decide_eq_true_eq, apart_nbr]
  constructor
  · intro h
    refine Classical.byContradiction fun hn => ?_
    have hall : ∀ m, m < 6 → In X Y Z (nbr c m) := fun m hm => Classical.byContradiction fun g => hn ⟨m, hm, g⟩
    have := nodup_len (b := (allC X Y Z).filter (adjF c)) hnd fun x hx => by
      obtain ⟨m, hm, rfl⟩ := List.mem_map.mp hx
      exact (hmem _).mpr ⟨hall m (List.mem_range.mp hm), m, List.mem_range.mp hm, rfl⟩
    simp at this
    omega
  · rintro ⟨m, hm, hout⟩
    have h1 := nodup_len (b := ((List.range 6).map (nbr c)).erase (nbr c m)) (valid_nodup ((allC_valid hX).filter (adjF c))) fun x hx => by
      obtain ⟨hin, k, hk, rfl⟩ := (hmem x).mp hx
      refine (List.mem_erase_of_ne (fun e => hout (by rw [← e]; exact hin))).mpr (List.mem_map.mpr ⟨k, List.mem_range.mpr hk, rfl⟩)
    rw [List.length_erase_of_mem (List.mem_map.mpr ⟨m, List.mem_range.mpr hm, rfl⟩)] at h1
    simp at h1
    omega
/-! ### Enclosed cells -/
noncomputable def outL (X Y Z : Int) (cs : List C) : List C := rchL (freeL X Y Z cs) ((freeL X Y Z cs).filter (rimF X Y Z))
noncomputable def encL (X Y Z : Int) (cs : List C) : List C := (freeL X Y Z cs).filter fun c => !decide (c ∈ outL X Y Z cs)
theorem free_valid (hX : Box X Y Z) (cs : List C) : Valid X Y Z (freeL X Y Z cs) := (allC_valid hX).filter _
theorem enc_valid (hX : Box X Y Z) (cs : List C) : Valid X Y Z (encL X Y Z cs) := (free_valid hX cs).filter _
theorem free_mem (hX : Box X Y Z) {cs : List C} {c : C} : c ∈ freeL X Y Z cs ↔ In X Y Z c ∧ ¬ c ∈ cs := by
  unfold freeL; rw [List.mem_filter, allC_mem hX]; simp
theorem enc_mask {cs : List C} (hv : Valid X Y Z cs) : (((1#64 : BitVec 64) <<< vol X Y Z - 1#64) &&& ~~~ mask Y Z cs) &&& ~~~ mask Y Z (outL X Y Z cs) = mask Y Z (encL X Y Z cs) :=
  ((rep_free hv).diff (rep_mask (rchL_valid (free_valid hv.box cs) _))).toMask
/-- Bare faces beyond which it is outside. -/
def faceF (cs E : List C) (c : C) (m : Nat) : Bool := !decide (nbr c m ∈ cs) && !decide (nbr c m ∈ E)
theorem face_F1 {cs E : List C} {c : C} {m : Nat} (h : nbr c m ∈ cs) : faceF cs E c m = false := by simp [faceF, h]
theorem face_F2 {cs E : List C} {c : C} {m : Nat} (h : nbr c m ∈ E) : faceF cs E c m = false := by simp [faceF, h]
theorem face_T {cs E : List C} {c : C} {m : Nat} (h : ¬ nbr c m ∈ cs) (h2 : ¬ nbr c m ∈ E) : faceF cs E c m = true := by simp [faceF, h, h2]
theorem face_T1 {cs E : List C} {c : C} {m : Nat} (hE : Valid X Y Z E) (h : ¬ nbr c m ∈ cs) (h2 : inBox X Y Z (nbr c m) = false) : faceF cs E c m = true :=
  face_T h fun g => by rw [inBox_of (hE.inn _ g)] at h2; simp at h2
def faceN (cs E : List C) : Nat → Int
  | 0 => 0
  | i + 1 => faceN cs E i + cntF (faceF cs E (at3 cs i)) 6
theorem faceN_bd (cs E : List C) : ∀ i : Nat, 0 ≤ faceN cs E i ∧ faceN cs E i ≤ 6 * (i : Int)
  | 0 => by simp [faceN]
  | i + 1 => by have := faceN_bd cs E i; have := cnt_bd (faceF cs E (at3 cs i)) 6; simp only [faceN]; omega
/-! ### The reference's margin -/
def MgP (X Y Z : Int) (x y z : Nat) (c : C) : Prop := ((-1 ≤ c.1 ∧ c.1 ≤ X) ∧ (-1 ≤ c.2.1 ∧ c.2.1 ≤ Y) ∧ (-1 ≤ c.2.2 ∧ c.2.2 ≤ Z)) ∧ ¬ In X Y Z c ∧ (c.1 + 1 < (x : Int) ∨ c.1 + 1 = (x : Int) ∧ (c.2.1 + 1 < (y : Int) ∨ c.2.1 + 1 = (y : Int) ∧ c.2.2 + 1 < (z : Int)))
structure Mg (X Y Z : Int) (L : List C) (x y z : Nat) : Prop where
  mem : ∀ c, c ∈ L ↔ MgP X Y Z x y z c
  len : L.length ≤ x * 36 + y * 6 + z
theorem Mg.start : Mg X Y Z [] 0 0 0 := ⟨fun c => by
  simp only [List.not_mem_nil, false_iff]
  unfold MgP
  omega, by simp⟩
def mgC (x y z : Nat) : C := ((x : Int) - 1, (y : Int) - 1, (z : Int) - 1)
theorem Mg.T {L : List C} {x y z : Nat} (h : Mg X Y Z L x y z) (hb : ((x : Int) ≤ X + 1 ∧ (y : Int) ≤ Y + 1) ∧ (z : Int) ≤ Z + 1) (hi : inBox X Y Z (mgC x y z) = false) : Mg X Y Z (L ++ [mgC x y z]) x y (z + 1) := by
  refine ⟨fun c => ?_, by have := h.len; simp; omega⟩
  rw [List.mem_append, List.mem_singleton, h.mem]
  constructor
  · rintro (g | rfl)
    · unfold MgP at *; omega
    · refine ⟨?_, fun g => by rw [inBox_of g] at hi; simp at hi, ?_⟩ <;> simp only [mgC] <;> omega
  · rintro ⟨h1, h2, h3⟩
    by_cases e : c = mgC x y z
    · exact .inr e
    · refine .inl ⟨h1, h2, ?_⟩
      obtain ⟨c1, c2, c3⟩ := c
      simp only [mgC, Prod.mk.injEq] at e h3 ⊢
      omega
theorem Mg.F {L : List C} {x y z : Nat} (h : Mg X Y Z L x y z) (hi : inBox X Y Z (mgC x y z) = true) : Mg X Y Z L x y (z + 1) := by
  refine ⟨fun c => ?_, by have := h.len; omega⟩
  rw [h.mem]
  have hin := inBox_bd hi
  constructor
  · intro g; unfold MgP at *; omega
  · rintro ⟨h1, h2, h3⟩
    refine ⟨h1, h2, ?_⟩
    have e : c ≠ mgC x y z := fun e => h2 (e ▸ hin)
    obtain ⟨c1, c2, c3⟩ := c
    simp only [mgC, ne_eq, Prod.mk.injEq] at e h3 ⊢
    omega
theorem Mg.y {L : List C} {x y z : Nat} (hX : Box X Y Z) (h : Mg X Y Z L x y z) (hz : (z : Int) = Z + 2) : Mg X Y Z L x (y + 1) 0 := by
  unfold Box at hX
  refine ⟨fun c => ?_, by have := h.len; omega⟩
  rw [h.mem]
  unfold MgP
  constructor
  · rintro ⟨h1, h2, h3⟩; exact ⟨h1, h2, by omega⟩
  · rintro ⟨h1, h2, h3⟩; exact ⟨h1, h2, by omega⟩
theorem Mg.x {L : List C} {x y : Nat} (hX : Box X Y Z) (h : Mg X Y Z L x y 0) (hy : (y : Int) = Y + 2) : Mg X Y Z L (x + 1) 0 0 := by
  unfold Box at hX
  refine ⟨fun c => ?_, by have := h.len; omega⟩
  rw [h.mem]
  unfold MgP
  constructor
  · rintro ⟨h1, h2, h3⟩; exact ⟨h1, h2, by omega⟩
  · rintro ⟨h1, h2, h3⟩; exact ⟨h1, h2, by omega⟩
structure Mgn (X Y Z : Int) (L : List C) : Prop where
  out : ∀ c ∈ L, ¬ In X Y Z c ∧ Small c
  all : ∀ c, In X Y Z c → ∀ m, m < 6 → ¬ In X Y Z (nbr c m) → nbr c m ∈ L
  len : L.length ≤ 216
theorem Mg.all {L : List C} {x : Nat} (hX : Box X Y Z) (h : Mg X Y Z L x 0 0) (hx : (x : Int) = X + 2) : Mgn X Y Z L := by
  refine ⟨fun c hc => ?_, fun c hc m hm ho => ?_, by have := h.len; unfold Box at hX; omega⟩
  · obtain ⟨h1, h2, _⟩ := (h.mem c).mp hc
    refine ⟨h2, ?_⟩
    unfold Box at hX; unfold Small; omega
  · rw [h.mem]
    refine ⟨?_, ho, ?_⟩
    all_goals
      unfold In at hc
      obtain ⟨c1, c2, c3⟩ := c
      obtain rfl | rfl | rfl | rfl | rfl | rfl : m = 0 ∨ m = 1 ∨ m = 2 ∨ m = 3 ∨ m = 4 ∨ m = 5 := by omega
      all_goals simp [nbr, movC, addC, sgn] at hc ⊢ <;> omega
/-! ### The reference's search from the margin -/
structure Sch (X Y Z : Int) (F MG q S : List C) (n k : Nat) : Prop where
  vS : Valid X Y Z S
  qs : ∃ r, q = MG ++ r ∧ r.Nodup ∧ (∀ c, c ∈ S ↔ c ∈ r) ∧ ∀ c ∈ r, c ∈ F
  rch : ∀ c ∈ S, Rch adjR (fun x => x ∈ F) (fun x => ∃ m, m < 6 ∧ ¬ In X Y Z (nbr x m)) c
  cls : ∀ j m, (j < n ∧ m < 6 ∨ j = n ∧ m < k) → j < q.length → nbr (at3 q j) m ∈ F → nbr (at3 q j) m ∈ S
variable {F MG q S : List C} {n k : Nat}
theorem Sch.start (hX : Box X Y Z) : Sch X Y Z F MG MG [] 0 0 :=
  ⟨valid_nil hX, ⟨[], by simp, List.nodup_nil, by simp, by simp⟩, by simp, fun j m h => by omega⟩
theorem Sch.len (h : Sch X Y Z F MG q S n k) : q.length ≤ MG.length + F.length := by
  obtain ⟨r, rfl, h1, _, h3⟩ := h.qs
  have := nodup_len h1 h3
  simp; omega
theorem Sch.mem (h : Sch X Y Z F MG q S n k) {c : C} (hc : c ∈ q) : c ∈ MG ∨ c ∈ S := by
  obtain ⟨r, rfl, _, h2, _⟩ := h.qs
  rcases List.mem_append.mp hc with g | g
  · exact .inl g
  · exact .inr ((h2 c).mpr g)
theorem Sch.T (h : Sch X Y Z F MG q S n k) (hM : Mgn X Y Z MG) (hF : Valid X Y Z F) (hn : n < q.length) (hk : k < 6) (he : nbr (at3 q n) k ∈ F) (hs : ¬ nbr (at3 q n) k ∈ S) :
    Sch X Y Z F MG (q ++ [nbr (at3 q n) k]) (withC S (nbr (at3 q n) k)) n (k + 1) := by
  have hin := hF.inn _ he
  obtain ⟨w1, w2⟩ := withC_valid h.vS hin
  refine ⟨w1, ?_, fun c hc => ?_, fun j m hj hjl hf => ?_⟩
  · obtain ⟨r, rfl, h1, h2, h3⟩ := h.qs
    refine ⟨r ++ [nbr (at3 (MG ++ r) n) k], by rw [List.append_assoc], ?_, fun c => ?_, fun c hc => ?_⟩
    · rw [List.nodup_append]
      refine ⟨h1, by simp, fun a ha b hb => ?_⟩
      simp at hb; subst hb
      intro e; subst e; exact hs ((h2 _).mpr ha)
    · rw [w2, h2, List.mem_append, List.mem_singleton]
    · rcases List.mem_append.mp hc with g | g
      · exact h3 c g
      · rw [List.mem_singleton.mp g]; exact he
  · rcases (w2 c).mp hc with g | rfl
    · exact h.rch c g
    · rcases h.mem (at3_mem hn) with g | g
      · obtain ⟨m, hm, hb⟩ := nbr_back (at3 q n) hk
        exact .base he ⟨m, hm, by rw [hb]; exact (hM.out _ g).1⟩
      · exact .step (h.rch _ g) (adj_nbr.mpr ⟨k, hk, rfl⟩) he
  · have hlt : j < q.length := by omega
    rw [at3_app_l hlt] at hf ⊢
    rw [w2]
    rcases hj with hj | ⟨rfl, hj⟩
    · exact .inl (h.cls j m (.inl hj) hlt hf)
    · rcases Nat.lt_or_ge m k with g | g
      · exact .inl (h.cls j m (.inr ⟨rfl, g⟩) hlt hf)
      · obtain rfl : m = k := by omega
        exact .inr rfl
theorem Sch.skip (h : Sch X Y Z F MG q S n k) (hs : nbr (at3 q n) k ∈ F → nbr (at3 q n) k ∈ S) : Sch X Y Z F MG q S n (k + 1) := by
  refine ⟨h.vS, h.qs, h.rch, fun j m hj hjl hf => ?_⟩
  rcases hj with hj | ⟨rfl, hj⟩
  · exact h.cls j m (.inl hj) hjl hf
  · rcases Nat.lt_or_ge m k with g | g
    · exact h.cls j m (.inr ⟨rfl, g⟩) hjl hf
    · obtain rfl : m = k := by omega
      exact hs hf
theorem Sch.next (h : Sch X Y Z F MG q S n k) (hk : k = 6) : Sch X Y Z F MG q S (n + 1) 0 := by
  subst hk
  refine ⟨h.vS, h.qs, h.rch, fun j m hj hjl hf => ?_⟩
  rcases hj with ⟨hj, hm⟩ | ⟨_, hm⟩
  · rcases Nat.lt_or_ge j n with g | g
    · exact h.cls j m (.inl ⟨g, hm⟩) hjl hf
    · exact h.cls j m (.inr ⟨by omega, hm⟩) hjl hf
  · omega
theorem Sch.done {cs : List C} (hX : Box X Y Z) (h : Sch X Y Z (freeL X Y Z cs) MG q S n 0) (hM : Mgn X Y Z MG) (hn : n = q.length) : S = outL X Y Z cs := by
  subst hn
  have hF := free_valid hX cs
  refine h.vS.ext (rchL_valid hF _) fun c hc => ?_
  unfold outL
  rw [rchL_mem]
  obtain ⟨r, hq, h1, h2, h3⟩ := h.qs
  constructor
  · intro g
    refine (h.rch c g).congr (fun x hx => hx) fun x hx hr => List.mem_filter.mpr ⟨hx, (rim_iff hX).mpr hr⟩
  · intro g
    induction g with
    | @base d g1 g2 =>
      obtain ⟨m, hm, ho⟩ := (rim_iff hX).mp (List.mem_filter.mp g2).2
      have hin := hF.inn _ g1
      have hmg := hM.all _ hin m hm ho
      obtain ⟨j, hj, e⟩ := mem_at3 hmg
      obtain ⟨m', hm', hb⟩ := nbr_back d hm
      have hjq : j < q.length := by rw [hq]; simp; omega
      have e2 : at3 q j = nbr d m := by rw [hq, at3_app_l hj]; exact e
      have := h.cls j m' (.inl ⟨hjq, hm'⟩) hjq (by rw [e2, hb]; exact g1)
      rw [e2, hb] at this
      exact this
    | @step d e g1 g2 g3 ih =>
      have hd : d ∈ q := by rw [hq]; exact List.mem_append_right _ ((h2 d).mp (ih (hF.inn _ g1.mem)))
      obtain ⟨j, hj, e1⟩ := mem_at3 hd
      obtain ⟨m, hm, e2⟩ := adj_nbr.mp g2
      have := h.cls j m (.inl ⟨hj, hm⟩) hj (by rw [e1, e2]; exact g3)
      rw [e1, e2] at this
      exact this
def encF (cs S : List C) (c : C) : Bool := !decide (c ∈ cs) && !decide (c ∈ S)
theorem enc_T {cs S : List C} {c : C} (h : ¬ c ∈ cs) (h2 : ¬ c ∈ S) : encF cs S c = true := by simp [encF, h, h2]
theorem enc_F1 {cs S : List C} {c : C} (h : c ∈ cs) : encF cs S c = false := by simp [encF, h]
theorem enc_F2 {cs S : List C} {c : C} (h : c ∈ S) : encF cs S c = false := by simp [encF, h]
theorem enc_filter (X Y Z : Int) (cs : List C) : (allC X Y Z).filter (encF cs (outL X Y Z cs)) = encL X Y Z cs := by
  unfold encL freeL
  rw [List.filter_filter]
  congr 1
  funext c
  unfold encF
  rw [Bool.and_comm]
/-- The six steps. -/
def STP : List C := [(-1, 0, 0), (1, 0, 0), (0, -1, 0), (0, 1, 0), (0, 0, -1), (0, 0, 1)]
theorem stp_nbr {c : C} {m : Nat} (hm : m < 6) : addC c (at3 STP m) = nbr c m := by
  obtain ⟨c1, c2, c3⟩ := c
  obtain rfl | rfl | rfl | rfl | rfl | rfl : m = 0 ∨ m = 1 ∨ m = 2 ∨ m = 3 ∨ m = 4 ∨ m = 5 := by omega
  all_goals simp [addC, at3, STP, nbr, movC, sgn]
theorem stp_sm {m : Nat} (hm : m < 6) : (-1000 ≤ (at3 STP m).1 ∧ (at3 STP m).1 ≤ 1000) ∧ (-1000 ≤ (at3 STP m).2.1 ∧ (at3 STP m).2.1 ≤ 1000) ∧ (-1000 ≤ (at3 STP m).2.2 ∧ (at3 STP m).2.2 ≤ 1000) := by
  obtain rfl | rfl | rfl | rfl | rfl | rfl : m = 0 ∨ m = 1 ∨ m = 2 ∨ m = 3 ∨ m = 4 ∨ m = 5 := by omega
  all_goals decide
/-! ### Six counts -/
structure Six (o : List Int) (t : Int) : Prop where
  len : o.length = 6
  sum : o.sum = t
  pos : ∀ z ∈ o, 0 ≤ z
theorem sum_at {o : List Int} (hp : ∀ z ∈ o, 0 ≤ z) : ∀ j, 0 ≤ at1 o j ∧ at1 o j ≤ o.sum := by
  induction o with
  | nil => intro j; simp [at1]
  | cons a o ih =>
    intro j
    have h0 := hp a (by simp)
    have ih2 := ih (fun z hz => hp z (by simp [hz]))
    have hs : 0 ≤ o.sum := by have := ih2 o.length; simp [at1] at this; exact this
    cases j with
    | zero => simp [at1]; omega
    | succ j => have := ih2 j; simp [at1] at this ⊢; omega
theorem sum_set : ∀ {o : List Int} {j : Nat}, j < o.length → (o.set j (at1 o j + 1)).sum = o.sum + 1
  | [], j, h => absurd h (by simp)
  | a :: o, 0, _ => by simp [at1]; omega
  | a :: o, j + 1, h => by
    have ih := sum_set (o := o) (j := j) (by simpa using h)
    simp [at1] at ih ⊢
    omega
theorem Six.put {o : List Int} {t : Int} (h : Six o t) {j : Nat} (hj : j < 6) : Six (o.set j (at1 o j + 1)) (t + 1) := by
  refine ⟨by simp [h.len], by rw [sum_set (by rw [h.len]; exact hj), h.sum], fun z hz => ?_⟩
  rcases List.mem_or_eq_of_mem_set hz with g | g
  · exact h.pos z g
  · have := (sum_at h.pos j).1; omega
def sumI (o : List Int) (j : Nat) : Int := (o.take j).sum
theorem sumI_succ {o : List Int} {j : Nat} (h : j < o.length) : sumI o (j + 1) = sumI o j + at1 o j := by
  unfold sumI
  rw [List.take_succ_eq_append_getElem h, List.sum_append]
  simp [at1, List.getD, h]
theorem sumI_bd {o : List Int} (hp : ∀ z ∈ o, 0 ≤ z) (j : Nat) : 0 ≤ sumI o j ∧ sumI o j ≤ o.sum := by
  have h1 : 0 ≤ sumI o j := by
    have := (sum_at (o := o.take j) (fun z hz => hp z (List.mem_of_mem_take hz)) (o.take j).length)
    unfold sumI; omega
  have h2 : 0 ≤ (o.drop j).sum := by
    have := (sum_at (o := o.drop j) (fun z hz => hp z (List.mem_of_mem_drop hz)) (o.drop j).length)
    omega
  have h3 : o.sum = sumI o j + (o.drop j).sum := by
    unfold sumI
    rw [← List.sum_append, List.take_append_drop]
  omega
theorem sumI_all {o : List Int} {j : Nat} (h : o.length ≤ j) : sumI o j = o.sum := by unfold sumI; rw [List.take_of_length_le h]
def bareS (cs E : List C) (c : C) (o : List Int) : Nat → List Int
  | 0 => o
  | k + 1 => if faceF cs E c k then (bareS cs E c o k).set k (at1 (bareS cs E c o k) k + 1) else bareS cs E c o k
def bareN (cs E : List C) : Nat → List Int
  | 0 => [0, 0, 0, 0, 0, 0]
  | i + 1 => bareS cs E (at3 cs i) (bareN cs E i) 6
theorem bareS_T {cs E : List C} {c : C} {o : List Int} {k : Nat} (h : faceF cs E c k = true) : (bareS cs E c o k).set k (at1 (bareS cs E c o k) k + 1) = bareS cs E c o (k + 1) := by simp only [bareS, h, if_true]
theorem bareS_F {cs E : List C} {c : C} {o : List Int} {k : Nat} (h : faceF cs E c k = false) : bareS cs E c o k = bareS cs E c o (k + 1) := by simp [bareS, h]
theorem bareS_six {cs E : List C} {c : C} {o : List Int} {t : Int} (h : Six o t) : ∀ k, k ≤ 6 → Six (bareS cs E c o k) (t + cntF (faceF cs E c) k)
  | 0, _ => by simpa [bareS, cntF] using h
  | k + 1, hk => by
    have ih := bareS_six (cs := cs) (E := E) (c := c) h k (by omega)
    cases hf : faceF cs E c k with
    | true => rw [← bareS_T hf, ← cnt_T hf, ← Int.add_assoc]; exact ih.put (by omega)
    | false => rw [← bareS_F hf, ← cnt_F hf]; exact ih
theorem bareN_six (cs E : List C) : ∀ i, Six (bareN cs E i) (faceN cs E i)
  | 0 => ⟨rfl, rfl, by simp [bareN]⟩
  | i + 1 => bareS_six (bareN_six cs E i) 6 (Nat.le_refl _)
end Go.Sep
/- Counting by recursion over rows of cells; sets taken apart by their lowest bits. -/
namespace Go.Sep
open Go
set_option linter.unusedVariables false
set_option linter.unusedSimpArgs false

def sumF (g : Nat → Int) : Nat → Int
  | 0 => 0
  | i + 1 => sumF g i + g i
theorem sumF_congr {g h : Nat → Int} : ∀ {i : Nat}, (∀ j, j < i → g j = h j) → sumF g i = sumF h i
  | 0, _ => rfl
  | i + 1, e => by simp only [sumF]; rw [sumF_congr fun j hj => e j (by omega), e i (by omega)]
theorem sumF_bd {g : Nat → Int} {B : Int} : ∀ {i : Nat}, (∀ j, j < i → 0 ≤ g j ∧ g j ≤ B) → 0 ≤ sumF g i ∧ sumF g i ≤ (i : Int) * B
  | 0, _ => by simp [sumF]
  | i + 1, h => by
    have ih := sumF_bd (g := g) (B := B) (i := i) fun j hj => h j (by omega)
    have h1 := h i (by omega)
    simp only [sumF]
    rw [show ((i + 1 : Nat) : Int) * B = (i : Int) * B + B by rw [Int.natCast_add, Int.add_mul]; simp]
    omega
def fac : Nat → Int
  | 0 => 1
  | f + 1 => ((f + 1 : Nat) : Int) * fac f
theorem fac_pos : ∀ f, 1 ≤ fac f
  | 0 => Int.le_refl _
  | f + 1 => by
    have h := fac_pos f
    have : 1 * 1 ≤ ((f + 1 : Nat) : Int) * fac f := Int.mul_le_mul (by omega) h (by omega) (by omega)
    simp only [fac]; omega
theorem fac_le {a b : Nat} (h : a ≤ b) : fac a ≤ fac b := by
  induction b with
  | zero => obtain rfl : a = 0 := by omega
            exact Int.le_refl _
  | succ b ih =>
    rcases Nat.lt_or_ge b a with g | g
    · obtain rfl : a = b + 1 := by omega
      exact Int.le_refl _
    · refine Int.le_trans (ih g) ?_
      have h1 := fac_pos b
      have : 1 * fac b ≤ ((b + 1 : Nat) : Int) * fac b := Int.mul_le_mul_of_nonneg_right (by omega) (by omega)
      simp only [fac]; omega

section recursion
variable (N : List C → List C) (M : List C → C → List C)
def recF : Nat → List C → Int
  | 0, _ => 1
  | f + 1, L => if L.length = 0 then 1 else sumF (fun j => recF f (M L (at3 (N L) j))) (N L).length
def recL (L : List C) : Int := recF N M L.length L
structure RecOk : Prop where
  n : ∀ L, (N L).length ≤ L.length
  m : ∀ L j, j < (N L).length → (M L (at3 (N L) j)).length < L.length
variable {N M}
theorem recF_nil {f : Nat} {L : List C} (h : L.length = 0) : recF N M f L = 1 := by
  cases f with
  | zero => rfl
  | succ f => simp only [recF, h, if_true]
theorem rec_fuel (h : RecOk N M) : ∀ (f g : Nat) (L : List C), L.length ≤ f → L.length ≤ g → recF N M f L = recF N M g L
  | 0, g, L, hf, _ => by rw [recF_nil (by omega), recF_nil (by omega)]
  | f + 1, 0, L, _, hg => by rw [recF_nil (by omega), recF_nil (by omega)]
  | f + 1, g + 1, L, hf, hg => by
    by_cases h0 : L.length = 0
    · rw [recF_nil h0, recF_nil h0]
    · simp only [recF, h0, if_false]
      exact sumF_congr fun j hj => by have := h.m L j hj; exact rec_fuel h f g _ (by omega) (by omega)
theorem rec_nil {L : List C} (h : L.length = 0) : recL N M L = 1 := recF_nil h
theorem rec_cons (h : RecOk N M) {L : List C} (h0 : ¬ L.length = 0) : recL N M L = sumF (fun j => recL N M (M L (at3 (N L) j))) (N L).length := by
  obtain ⟨k, hk⟩ : ∃ k, L.length = k + 1 := ⟨L.length - 1, by omega⟩
  unfold recL
  rw [hk]
  simp only [recF, h0, if_false]
  exact sumF_congr fun j hj => by have := h.m L j hj; exact rec_fuel h _ _ _ (by omega) (Nat.le_refl _)
theorem rec_bd (h : RecOk N M) : ∀ (f : Nat) (L : List C), L.length ≤ f → 0 ≤ recL N M L ∧ recL N M L ≤ fac f
  | 0, L, hL => by rw [rec_nil (by omega)]; simp [fac]
  | f + 1, L, hL => by
    by_cases h0 : L.length = 0
    · rw [rec_nil h0]; have := fac_pos (f + 1); omega
    · rw [rec_cons h h0]
      have hb := sumF_bd (g := fun j => recL N M (M L (at3 (N L) j))) (B := fac f) (i := (N L).length) fun j hj => rec_bd h f _ (by have := h.m L j hj; omega)
      have hn := h.n L
      have hf := fac_pos f
      have : ((N L).length : Int) * fac f ≤ ((f + 1 : Nat) : Int) * fac f := Int.mul_le_mul_of_nonneg_right (by omega) (by omega)
      simp only [fac]; omega
theorem rec_walk (h : RecOk N M) {L : List C} (hL : L.length ≤ 18) {i : Nat} (hi : i ≤ (N L).length) : 0 ≤ sumF (fun j => recL N M (M L (at3 (N L) j))) i ∧ sumF (fun j => recL N M (M L (at3 (N L) j))) i ≤ 6402373705728000 := by
  have hn := h.n L
  have hb := sumF_bd (g := fun j => recL N M (M L (at3 (N L) j))) (B := fac 17) (i := i) fun j hj => rec_bd h 17 _ (by have := h.m L j (by omega); omega)
  have : (i : Int) * fac 17 ≤ 18 * fac 17 := Int.mul_le_mul_of_nonneg_right (by omega) (by decide)
  have e : 18 * fac 17 = 6402373705728000 := by decide
  omega
theorem rec_term (h : RecOk N M) {L : List C} (hL : L.length ≤ 18) {i : Nat} (hi : i < (N L).length) : 0 ≤ recL N M (M L (at3 (N L) i)) ∧ recL N M (M L (at3 (N L) i)) ≤ 6402373705728000 := by
  have hb := rec_bd h 18 (M L (at3 (N L) i)) (by have := h.m L i hi; omega)
  have e : fac 18 = 6402373705728000 := by decide
  omega
end recursion

theorem without_lt {L : List C} {c : C} (h : c ∈ L) : (without L c).length < L.length := by
  unfold without
  exact List.length_filter_lt_length_iff_exists.mpr ⟨c, h, by simp⟩

/-! ### The lowest bits, one after the other -/
theorem dec_bit {s : BitVec 64} {i : Nat} (hi : i < 64) (h1 : s.getLsbD i = true) (h2 : ∀ j, j < i → s.getLsbD j = false) : s &&& (s - 1#64) = s &&& ~~~(1#64 <<< i) := by
  rw [← BitVec.not_neg]
  have hl := low_bit hi h1 h2
  apply BitVec.eq_of_getLsbD_eq
  intro j hj
  have hb := congrArg (fun x : BitVec 64 => x.getLsbD j) hl
  simp only [BitVec.getLsbD_and] at hb
  rw [BitVec.getLsbD_and, BitVec.getLsbD_and, BitVec.getLsbD_not, BitVec.getLsbD_not, ← hb]
  cases s.getLsbD j <;> simp
theorem bit_low {X Y Z : Int} {s : BitVec 64} {L : List C} (h : Rep X Y Z s L) (hne : 0 < L.length) : ∀ j, j < cellIx Y Z (at3 L 0) → s.getLsbD j = false := by
  have hX := h.valid.box
  have hm := at3_mem hne
  have hin := h.valid.inn _ hm
  intro j hj
  cases e : s.getLsbD j with
  | false => rfl
  | true =>
    exfalso
    have h64 := cellIx_lt64 hX hin
    have hjv := h.top j (by omega) e
    have hc := cellAt_in hX hjv
    have h2 := (h.mem _ hc).mp (by rw [ix_cellAt hX hjv]; exact e)
    obtain ⟨k, hk, e2⟩ := mem_at3 h2
    rcases Nat.eq_zero_or_pos k with g | g
    · subst g; rw [e2, ix_cellAt hX hjv] at hj; omega
    · have := ix_mono h.valid g hk
      rw [e2, ix_cellAt hX hjv] at this; omega
theorem without_head {X Y Z : Int} {L : List C} (h : Valid X Y Z L) (hne : 0 < L.length) : without L (at3 L 0) = L.drop 1 := by
  have hnd := valid_nodup h
  cases L with
  | nil => simp at hne
  | cons c L =>
    obtain ⟨h1, _⟩ := List.nodup_cons.mp hnd
    show (c :: L).filter (fun d => !decide (d = c)) = L
    rw [List.filter_cons_of_neg (by simp)]
    exact List.filter_eq_self.mpr fun d hd => by
      have : d ≠ c := fun e => h1 (e ▸ hd)
      simp [this]
theorem valid_drop {X Y Z : Int} {L : List C} (h : Valid X Y Z L) (i : Nat) : Valid X Y Z (L.drop i) :=
  ⟨h.box, fun c hc => h.inn c (List.mem_of_mem_drop hc), by
    have := h.rise
    exact this.sublist (List.Sublist.map _ (List.drop_sublist i L))⟩
theorem at3_drop {L : List C} {i : Nat} : at3 (L.drop i) 0 = at3 L i := by simp [at3, List.getD]
theorem drop_low {X Y Z : Int} {L : List C} (h : Valid X Y Z L) {i : Nat} (hi : i < L.length) : mask Y Z (L.drop i) &&& -mask Y Z (L.drop i) = 1#64 <<< cellIx Y Z (at3 L i) := by
  rw [rep_low (rep_mask (valid_drop h i)) (by simp; omega), at3_drop]
theorem drop_next {X Y Z : Int} {L : List C} (h : Valid X Y Z L) {i : Nat} (hi : i < L.length) : mask Y Z (L.drop i) &&& (mask Y Z (L.drop i) - 1#64) = mask Y Z (L.drop (i + 1)) := by
  have hv := valid_drop h i
  have hne : 0 < (L.drop i).length := by simp; omega
  have hin := hv.inn _ (at3_mem hne)
  have hr := rep_mask hv
  rw [dec_bit (cellIx_lt64 h.box hin) ((hr.mem _ hin).mpr (at3_mem hne)) (bit_low hr hne)]
  have := (hr.without hin)
  rw [without_head hv hne, List.drop_drop] at this
  exact this.toMask
theorem drop_lt {X Y Z : Int} {L : List C} (h : Valid X Y Z L) {i : Nat} (hz : ¬ mask Y Z (L.drop i) = 0#64) : i < L.length := by
  have := mask_some (valid_drop h i) hz
  simp at this; omega
theorem drop_ge {X Y Z : Int} {L : List C} (h : Valid X Y Z L) {i : Nat} (hz : mask Y Z (L.drop i) = 0#64) : L.length ≤ i := by
  have := mask_nil (valid_drop h i) hz
  simp at this; omega

/-! ### Dominoes -/
def domN (L : List C) : List C := L.filter (adjF (at3 L 0))
def domM (L : List C) (e : C) : List C := without (without L (at3 L 0)) e
theorem dom_ok : RecOk domN domM := ⟨fun L => List.length_filter_le _ _, fun L j hj => by
  have h1 : 0 < L.length := by have := List.length_filter_le (adjF (at3 L 0)) L; unfold domN at hj; omega
  have := without_lt (at3_mem h1)
  have := without_len (without L (at3 L 0)) (at3 (domN L) j)
  unfold domM; omega⟩
theorem dom_mask {X Y Z : Int} {L : List C} (hv : Valid X Y Z L) (hne : 0 < L.length) {i : Nat} (hi : i < (domN L).length) :
    (mask Y Z L &&& ~~~(mask Y Z L &&& -mask Y Z L)) &&& ~~~(mask Y Z ((domN L).drop i) &&& -mask Y Z ((domN L).drop i)) = mask Y Z (domM L (at3 (domN L) i)) := by
  rw [rep_low (rep_mask hv) hne, drop_low (L := domN L) (hv.filter _) hi]
  have h1 := (rep_mask hv).without (hv.inn _ (at3_mem hne))
  exact (h1.without (hv.inn _ (List.mem_filter.mp (at3_mem hi)).1)).toMask
theorem dom_valid {X Y Z : Int} {L : List C} (hv : Valid X Y Z L) (e : C) : Valid X Y Z (domM L e) := without_valid (without_valid hv _) _
end Go.Sep
/- Maps in walks; counting with a memory. -/
namespace Go.Sep
open Go
set_option linter.unusedVariables false
set_option linter.unusedSimpArgs false

section rules
variable {P : Program} {ts : Temps} {H : Heap} {n : Nat} {x y i : Operand} {t : TypeId}
def mapGet (k : IntKind) (a : Int) (z : Value) (es : List (Value × Value)) : Option (Value × Bool) :=
  match mapFind k a es 0 with
  | some (some (_, v)) => some (v, true)
  | some none => some (z, false)
  | none => none
theorem e_makeMap : E P (.makeMap t none) ts H n (.map (some n)) (H.set n (.map [])) (n + 1) := ⟨by simp only [cop, cMakeMap], rfl⟩
theorem cLookup_at {kt et : TypeId} {kk k : IntKind} {a : Int} {r : Nat} {es : List (Value × Value)} {v z : Value} {b ok : Bool} {sz by' : Nat} {zz : List Value} {g : Bool} {sz' by'' : Nat} {z' : List Value} {g' : Bool}
    (ht : ti P t = some ⟨.map kt et, sz, by', zz, g⟩) (hK : ti P kt = some ⟨.int kk, sz', by'', z', g'⟩) (hz : zeroOf P et = some z) (hkz : konst z = true) (hH : H r = some (.map es)) (hv : mapGet k a z es = some (v, b)) :
    cLookup P t ok H (.map (some r)) (.int k a) = some (if ok then .tuple #[v, .bool b] else v) := by
  unfold cLookup
  simp only [ht, hK, hz, hH, hkz, if_true]
  unfold mapGet at hv
  split at hv
  · rename_i h
    simp only [Option.some.injEq, Prod.mk.injEq] at hv
    obtain ⟨rfl, rfl⟩ := hv
    rw [h]
  · rename_i h
    simp only [Option.some.injEq, Prod.mk.injEq] at hv
    obtain ⟨rfl, rfl⟩ := hv
    rw [h]
  · simp at hv
theorem e_lookup2 {kt et : TypeId} {kk k : IntKind} {a : Int} {r : Nat} {es : List (Value × Value)} {v z : Value} {b : Bool} {sz by' : Nat} {zz : List Value} {g : Bool} {sz' by'' : Nat} {z' : List Value} {g' : Bool}
    (ht : ti P t = some ⟨.map kt et, sz, by', zz, g⟩) (hK : ti P kt = some ⟨.int kk, sz', by'', z', g'⟩) (hz : zeroOf P et = some z) (hkz : konst z = true) (hx : ev ts x = some (.map (some r))) (hi : ev ts i = some (.int k a)) (hH : H r = some (.map es)) (hv : mapGet k a z es = some (v, b)) :
    E P (.lookup t x i true) ts H n (.tuple #[v, .bool b]) H n :=
  ⟨by simp only [cop, ev2, hx, hi, cLookup_at ht hK hz hkz hH hv, withH]; rfl, rfl⟩
theorem e_lookup1 {kt et : TypeId} {kk k : IntKind} {a : Int} {r : Nat} {es : List (Value × Value)} {v z : Value} {b : Bool} {sz by' : Nat} {zz : List Value} {g : Bool} {sz' by'' : Nat} {z' : List Value} {g' : Bool}
    (ht : ti P t = some ⟨.map kt et, sz, by', zz, g⟩) (hK : ti P kt = some ⟨.int kk, sz', by'', z', g'⟩) (hz : zeroOf P et = some z) (hkz : konst z = true) (hx : ev ts x = some (.map (some r))) (hi : ev ts i = some (.int k a)) (hH : H r = some (.map es)) (hv : mapGet k a z es = some (v, b)) :
    E P (.lookup t x i false) ts H n v H n :=
  ⟨by simp only [cop, ev2, hx, hi, cLookup_at ht hK hz hkz hH hv, withH]; rfl, rfl⟩
theorem cMapW_at {m k : Operand} {kt et : TypeId} {kk q : IntKind} {a : Int} {r : Nat} {es es' : List (Value × Value)} {v : Value} {sz by' : Nat} {zz : List Value} {g : Bool} {sz' by'' : Nat} {z' : List Value} {g' : Bool}
    (ht : ti P t = some ⟨.map kt et, sz, by', zz, g⟩) (hK : ti P kt = some ⟨.int kk, sz', by'', z', g'⟩) (hm : ev ts m = some (.map (some r))) (hk : ev ts k = some (.int q a)) (hx : ev ts x = some v) (h1 : oneV v = true) (hH : H r = some (.map es)) (hp : mapPut q a v es = some es') :
    cMapW P t m k x ts H n = some (.tuple #[], H.set r (.map es'), n) := by
  unfold cMapW
  simp only [hm, hk, hx]
  have : cMapUpdate P t H (.map (some r)) (.int q a) v = some (H.set r (.map es')) := by
    unfold cMapUpdate
    simp only [ht, hK, hH]
    cases v <;> first | (simp [oneV] at h1; done) | (simp only [hp])
  rw [this]
theorem e_mapUpdate {m k : Operand} {kt et : TypeId} {kk q : IntKind} {a : Int} {r : Nat} {es es' : List (Value × Value)} {v : Value} {sz by' : Nat} {zz : List Value} {g : Bool} {sz' by'' : Nat} {z' : List Value} {g' : Bool}
    (ht : ti P t = some ⟨.map kt et, sz, by', zz, g⟩) (hK : ti P kt = some ⟨.int kk, sz', by'', z', g'⟩) (hm : ev ts m = some (.map (some r))) (hk : ev ts k = some (.int q a)) (hx : ev ts x = some v) (h1 : oneV v = true) (hH : H r = some (.map es)) (hp : mapPut q a v es = some es') :
    E P (.mapUpdate t m k x) ts H n (.tuple #[]) (H.set r (.map es')) n := ⟨by simp only [cop]; exact cMapW_at ht hK hm hk hx h1 hH hp, rfl⟩
theorem e_insert {m k : Operand} {kt et : TypeId} {kk q : IntKind} {a : Int} {r : Nat} {es es' : List (Value × Value)} {v : Value} {sz by' : Nat} {zz : List Value} {g : Bool} {sz' by'' : Nat} {z' : List Value} {g' : Bool}
    (ht : ti P t = some ⟨.map kt et, sz, by', zz, g⟩) (hK : ti P kt = some ⟨.int kk, sz', by'', z', g'⟩) (hm : ev ts m = some (.map (some r))) (hk : ev ts k = some (.int q a)) (hx : ev ts x = some v) (h1 : oneV v = true) (hH : H r = some (.map es)) (hp : mapPut q a v es = some es') :
    E P (.insert t m k x) ts H n (.tuple #[]) (H.set r (.map es')) n := ⟨by simp only [cop]; exact cMapW_at ht hK hm hk hx h1 hH hp, rfl⟩
end rules

section drawnM
variable {P : Program} {N : Nat} {ops : Array Oper} {r : List Oper} {ms : List Nat} {m j : Nat} {acc : List (Nat × Foot)} {ts : Temps} {H : Heap} {n t : Nat} {v : Value} {K : St → Prop}
  {op : Op} {ty : TypeId} {pos : String} {after : Array Edge} {gd : Option (Nat × Bool)}
/-- A call that writes to an old block. -/
theorem dCM {f : FuncId} {args : List Value} {b : Nat} {c : Blk} (hd : okDst N (some t) = true) (hw : wantC ops ⟨some t, op, ty, pos, after, gd⟩ ts = some true) (hkd : kindOf op ts = .eff 0 0 []) (hc : calleeOf ts op = some (f, args))
    (hf : Fn P f args (hide (hidden m acc) n H) n v ((hide (hidden m acc) n H).set b c) n) (ha : accOk m (.eff n n [b]) acc) (hb : b < n) (hu : b ∉ hidden m acc)
    (hk : wopsD P N ops r ms (j + 1) ((j, .eff n n [b]) :: acc) ⟨(t, v) :: ts, H.set b c, n⟩ K) : wopsD P N ops (⟨some t, op, ty, pos, after, gd⟩ :: r) (m :: ms) j acc ⟨ts, H, n⟩ K := by
  simp only [wopsD, hd, hw, hkd, putT]
  refine ⟨trivial, [b], by simpa using ⟨hb, hu⟩, ?_⟩
  simp only [stepOp, hc]
  refine ⟨v, _, n, hf, Nat.le_refl _, fun y hy hyb hu' => by rw [Heap.set_ne _ _ (by simpa using hyb)]; unfold hide; rw [if_pos ⟨hy, hu'⟩], ha, ?_⟩
  have : unhide (hidden m acc) n H ((hide (hidden m acc) n H).set b c) = H.set b c := by
    funext y
    unfold unhide
    by_cases e : y = b
    · subst e; rw [if_pos ⟨hb, hu⟩, Heap.set_same, Heap.set_same]
    · rw [Heap.set_ne _ _ e, Heap.set_ne _ _ e]
      split
      · rename_i hh; unfold hide; rw [if_pos hh]
      · rfl
  rw [this]; exact hk
/-- A call that writes to two old blocks. -/
theorem dCM2 {f : FuncId} {args : List Value} {b b' : Nat} {c c' : Blk} (hd : okDst N (some t) = true) (hw : wantC ops ⟨some t, op, ty, pos, after, gd⟩ ts = some true) (hkd : kindOf op ts = .eff 0 0 []) (hc : calleeOf ts op = some (f, args))
    (hf : Fn P f args (hide (hidden m acc) n H) n v (((hide (hidden m acc) n H).set b c).set b' c') n) (ha : accOk m (.eff n n [b, b']) acc) (hb : b < n ∧ b' < n) (hu : b ∉ hidden m acc ∧ b' ∉ hidden m acc)
    (hk : wopsD P N ops r ms (j + 1) ((j, .eff n n [b, b']) :: acc) ⟨(t, v) :: ts, (H.set b c).set b' c', n⟩ K) : wopsD P N ops (⟨some t, op, ty, pos, after, gd⟩ :: r) (m :: ms) j acc ⟨ts, H, n⟩ K := by
  simp only [wopsD, hd, hw, hkd, putT]
  refine ⟨trivial, [b, b'], ?_, ?_⟩
  · intro y hy
    simp at hy
    rcases hy with rfl | rfl
    · exact ⟨hb.1, hu.1⟩
    · exact ⟨hb.2, hu.2⟩
  simp only [stepOp, hc]
  refine ⟨v, _, n, hf, Nat.le_refl _, fun y hy hyb hu' => ?_, ha, ?_⟩
  · simp at hyb
    rw [Heap.set_ne _ _ hyb.2, Heap.set_ne _ _ hyb.1]; unfold hide; rw [if_pos ⟨hy, hu'⟩]
  have : unhide (hidden m acc) n H (((hide (hidden m acc) n H).set b c).set b' c') = (H.set b c).set b' c' := by
    funext y
    unfold unhide
    by_cases e' : y = b'
    · subst e'; rw [if_pos ⟨hb.2, hu.2⟩, Heap.set_same, Heap.set_same]
    · rw [Heap.set_ne _ _ e', Heap.set_ne _ _ e']
      by_cases e : y = b
      · subst e; rw [if_pos ⟨hb.1, hu.1⟩, Heap.set_same, Heap.set_same]
      · rw [Heap.set_ne _ _ e, Heap.set_ne _ _ e]
        split
        · rename_i hh; unfold hide; rw [if_pos hh]
        · rfl
  rw [this]; exact hk
end drawnM

section ends
variable {P : Program} {s : St}
/-- Entries without names. -/
def plainE (es : List (Value × Value)) : Bool := es.all fun p => plainA p.1 && plainA p.2
theorem plainE_ren {ρ : Nat → Nat} {es : List (Value × Value)} (h : plainE es = true) (n : Nat) : es = es.map (fun p => (renC ρ p.1, renC ρ p.2)) ∧ es.all (fun p => ltC n p.1 && ltC n p.2) = true := by
  unfold plainE at h
  rw [List.all_eq_true] at h
  have h2 : ∀ p ∈ es, plainA p.1 = true ∧ plainA p.2 = true := fun p hp => by have := h p hp; simpa using this
  refine ⟨?_, List.all_eq_true.mpr fun p hp => by simp [(plainA_ren (ρ := ρ) (h2 p hp).1).2 n, (plainA_ren (ρ := ρ) (h2 p hp).2).2 n]⟩
  calc es = es.map id := (List.map_id _).symm
    _ = es.map (fun p => (renC ρ p.1, renC ρ p.2)) := List.map_congr_left fun p hp => by rw [(plainA_ren (h2 p hp).1).1, (plainA_ren (h2 p hp).2).1]; rfl
theorem Ends.vM {fn : Func} {H : Heap} {n b : Nat} {v v' : Value} {es es' : List (Value × Value)} (hb : b < n) (hle : OldBut [b] n H s.H) (hH : ∀ x, n ≤ x → H x = none) (hbk : s.H b = some (.map es')) (hes : es' = es) (hp : plainE es = true)
    (hv : ltT n v = true) (hres : resOf P s fn.results.toList = some v') (he : v' = v) : Ends P fn H n s v (H.set b (.map es)) n := by
  subst hes he
  refine ⟨id, fun _ _ => rfl, by rw [hres]; congr 1; exact (renT_id _).symm, hv, fun x c hx => ?_, fun x y _ _ h => h⟩
  by_cases e : x = b
  · subst e
    rw [Heap.set_same] at hx
    obtain rfl := Option.some.inj hx
    refine .inr ⟨hb, ?_⟩
    simp only [id, hbk]
    exact plainE_ren hp _
  · rw [Heap.set_ne _ _ e] at hx
    have hlt : x < n := by
      rcases Nat.lt_or_ge x n with g | g
      · exact g
      · rw [hH x g] at hx; simp at hx
    exact .inl ⟨hlt, hx, hle x c hlt (by simpa using e) hx⟩
theorem Heap.set_self {H : Heap} {x : Nat} {b : Blk} (h : H x = some b) : H.set x b = H := by
  funext y
  unfold Heap.set
  split
  · rename_i e; rw [e, h]
  · rfl
end ends

/-! ### A memory of counts -/
section memory
variable (Y Z : Int) (N : List C → List C) (M : List C → C → List C)
def encE (K : List C) : Value × Value := (U (mask Y Z K), .int .i64 (recL N M K))
def encM (ks : List (List C)) : List (Value × Value) := ks.map (encE Y Z N M)
def putK (L : List C) (ks : List (List C)) : List (List C) := if L ∈ ks then ks else ks ++ [L]
def memS (g : Nat → List (List C) → List (List C)) (ks : List (List C)) : Nat → List (List C)
  | 0 => ks
  | i + 1 => g i (memS g ks i)
def memK : Nat → List C → List (List C) → List (List C)
  | 0, _, ks => ks
  | f + 1, L, ks => if L ∈ ks then ks else putK L (memS (fun j => memK f (M L (at3 (N L) j))) ks (N L).length)
structure MemOk (X Y Z : Int) (ks : List (List C)) : Prop where
  val : ∀ K ∈ ks, Valid X Y Z K
  nil : [] ∈ ks
variable {Y Z N M} {X : Int}
theorem memK_hit {f : Nat} {L : List C} {ks : List (List C)} (h : L ∈ ks) : memK N M f L ks = ks := by
  cases f with
  | zero => rfl
  | succ f => simp only [memK, h, if_true]
theorem memK_miss {f : Nat} {L : List C} {ks : List (List C)} (h : ¬ L ∈ ks) : memK N M (f + 1) L ks = putK L (memS (fun j => memK N M f (M L (at3 (N L) j))) ks (N L).length) := by simp only [memK, h, if_false]
theorem MemOk.put {ks : List (List C)} (h : MemOk X Y Z ks) {L : List C} (hL : Valid X Y Z L) : MemOk X Y Z (putK L ks) := by
  unfold putK
  split
  · exact h
  · refine ⟨fun K hK => ?_, List.mem_append_left _ h.nil⟩
    rcases List.mem_append.mp hK with g | g
    · exact h.val K g
    · rw [List.mem_singleton.mp g]; exact hL
theorem memS_ok {g : Nat → List (List C) → List (List C)} {ks : List (List C)} (h : MemOk X Y Z ks) : ∀ i, (∀ j ks', j < i → MemOk X Y Z ks' → MemOk X Y Z (g j ks')) → MemOk X Y Z (memS g ks i)
  | 0, _ => h
  | i + 1, hg => hg i _ (by omega) (memS_ok h i fun j ks' hj => hg j ks' (by omega))
theorem memK_ok (hM : ∀ L e, Valid X Y Z L → Valid X Y Z (M L e)) : ∀ (f : Nat) (L : List C) (ks : List (List C)), Valid X Y Z L → MemOk X Y Z ks → MemOk X Y Z (memK N M f L ks)
  | 0, L, ks, _, h => h
  | f + 1, L, ks, hL, h => by
    by_cases e : L ∈ ks
    · rw [memK_hit e]; exact h
    · rw [memK_miss e]
      exact (memS_ok h _ fun j ks' _ h' => memK_ok hM f _ ks' (hM L _ hL) h').put hL
theorem mask_inj {K L : List C} (hK : Valid X Y Z K) (hL : Valid X Y Z L) (h : mask Y Z K = mask Y Z L) : K = L := ((rep_mask hK).eq_iff (rep_mask hL)).mp h
theorem find_enc {L : List C} (hL : Valid X Y Z L) : ∀ {ks : List (List C)} {i : Nat}, (∀ K ∈ ks, Valid X Y Z K) →
    (L ∈ ks → ∃ j, mapFind .u64 (((mask Y Z L).toNat : Nat) : Int) (encM Y Z N M ks) i = some (some (j, .int .i64 (recL N M L))) ∧ i ≤ j ∧ (encM Y Z N M ks)[j - i]? = some (encE Y Z N M L)) ∧
    (¬ L ∈ ks → mapFind .u64 (((mask Y Z L).toNat : Nat) : Int) (encM Y Z N M ks) i = some none)
  | [], i, _ => ⟨fun h => absurd h (by simp), fun _ => rfl⟩
  | K :: ks, i, hv => by
    have ih := find_enc hL (ks := ks) (i := i + 1) fun K hK => hv K (by simp [hK])
    have hKv := hv K (by simp)
    have e0 : mapFind .u64 (((mask Y Z L).toNat : Nat) : Int) (encM Y Z N M (K :: ks)) i = if (((mask Y Z L).toNat : Nat) : Int) = (((mask Y Z K).toNat : Nat) : Int) then some (some (i, .int .i64 (recL N M K))) else mapFind .u64 (((mask Y Z L).toNat : Nat) : Int) (encM Y Z N M ks) (i + 1) := by
      show mapFind .u64 _ ((U (mask Y Z K), Value.int .i64 (recL N M K)) :: encM Y Z N M ks) i = _
      simp only [U, mapFind, if_true]
    by_cases e : L = K
    · subst e
      refine ⟨fun _ => ⟨i, by rw [e0, if_pos rfl], Nat.le_refl _, by simp [encM]⟩, fun h => absurd (by simp) h⟩
    · have hne : ¬ (((mask Y Z L).toNat : Nat) : Int) = (((mask Y Z K).toNat : Nat) : Int) := fun g => e (mask_inj hL hKv (BitVec.eq_of_toNat_eq (by omega)))
      rw [e0, if_neg hne]
      constructor
      · intro h
        obtain ⟨j, h1, h2, h3⟩ := ih.1 (by simpa [e] using h)
        refine ⟨j, h1, by omega, ?_⟩
        rw [show j - i = (j - (i + 1)) + 1 by omega]
        simpa [encM] using h3
      · intro h
        exact ih.2 (by simp at h; exact h.2)
theorem get_hit {L : List C} (hL : Valid X Y Z L) {ks : List (List C)} (hm : MemOk X Y Z ks) (h : L ∈ ks) : mapGet .u64 (((mask Y Z L).toNat : Nat) : Int) (.int .i64 0) (encM Y Z N M ks) = some (.int .i64 (recL N M L), true) := by
  obtain ⟨j, h1, _⟩ := (find_enc (N := N) (M := M) hL (i := 0) hm.val).1 h
  unfold mapGet; rw [h1]
theorem get_miss {L : List C} (hL : Valid X Y Z L) {ks : List (List C)} (hm : MemOk X Y Z ks) (h : ¬ L ∈ ks) : mapGet .u64 (((mask Y Z L).toNat : Nat) : Int) (.int .i64 0) (encM Y Z N M ks) = some (.int .i64 0, false) := by
  have h1 := (find_enc (N := N) (M := M) hL (i := 0) hm.val).2 h
  unfold mapGet; rw [h1]
theorem put_enc {L : List C} (hL : Valid X Y Z L) {ks : List (List C)} (hm : MemOk X Y Z ks) : mapPut .u64 (((mask Y Z L).toNat : Nat) : Int) (.int .i64 (recL N M L)) (encM Y Z N M ks) = some (encM Y Z N M (putK L ks)) := by
  unfold putK
  by_cases h : L ∈ ks
  · obtain ⟨j, h1, _, h3⟩ := (find_enc (N := N) (M := M) hL (i := 0) hm.val).1 h
    rw [if_pos h]
    unfold mapPut
    rw [h1]
    simp only [Option.some.injEq]
    rw [Nat.sub_zero] at h3
    obtain ⟨hlt, h4⟩ := List.getElem?_eq_some_iff.mp h3
    rw [show ((Value.int .u64 (((mask Y Z L).toNat : Nat) : Int), Value.int .i64 (recL N M L)) : Value × Value) = (encM Y Z N M ks)[j] from h4.symm]
    exact List.set_getElem_self hlt
  · rw [if_neg h]
    unfold mapPut
    rw [(find_enc (N := N) (M := M) hL (i := 0) hm.val).2 h]
    simp only [encM, List.map_append]
    rfl
theorem encM_plain (ks : List (List C)) : plainE (encM Y Z N M ks) = true := by
  unfold plainE encM
  rw [List.all_eq_true]
  intro p hp
  obtain ⟨K, _, rfl⟩ := List.mem_map.mp hp
  rfl
theorem memOk_nil (hX : Box X Y Z) : MemOk X Y Z [[]] := ⟨fun K hK => by rw [List.mem_singleton.mp hK]; exact valid_nil hX, by simp⟩
theorem enc_nil : mapPut .u64 0 (.int .i64 1) [] = some (encM Y Z N M [[]]) := rfl
end memory

/-! ### Orders of staircases, orders of taking -/
theorem rep_sub {X Y Z : Int} {L : List C} (hv : Valid X Y Z L) {f : C → Bool} (hf : ∀ c, f c = true → c ∈ L) : Rep X Y Z (thoseTo Y Z f (vol X Y Z)) (L.filter f) := by
  refine (rep_those hv.box f).congr (hv.filter f) fun c hc => ?_
  simp only [List.mem_filter, allC_mem hv.box]
  exact ⟨fun h => ⟨hf c h.2, h.2⟩, fun h => ⟨hc, h.2⟩⟩
theorem sub_mask {X Y Z : Int} {L N : List C} (hv : Valid X Y Z L) (hN : Valid X Y Z N) (hs : ∀ c ∈ N, c ∈ L) {i : Nat} (hi : i < N.length) : mask Y Z L &&& ~~~(mask Y Z (N.drop i) &&& -mask Y Z (N.drop i)) = mask Y Z (without L (at3 N i)) := by
  rw [drop_low hN hi]
  exact ((rep_mask hv).without (hN.inn _ (at3_mem hi))).toMask
theorem sub_ok {f : List C → C → Bool} : RecOk (fun L => L.filter (f L)) without := ⟨fun L => List.length_filter_le _ _, fun L j hj => without_lt (List.mem_filter.mp (at3_mem hj)).1⟩
def ordN (L : List C) : List C := L.filter fun c => stairC (without L c)
noncomputable def takN (L : List C) : List C := L.filter (canB L)
theorem ord_ok : RecOk ordN without := sub_ok (f := fun L c => stairC (without L c))
theorem tak_ok : RecOk takN without := sub_ok (f := canB)
theorem ord_mask {X Y Z : Int} {L : List C} (hv : Valid X Y Z L) : thoseTo Y Z (cornF L) (vol X Y Z) = mask Y Z (ordN L) := by
  have h := (rep_sub hv (f := cornF L) fun c h => by simp [cornF] at h; exact h.1).toMask
  rw [h]
  congr 1
  unfold ordN
  refine List.filter_congr fun c hc => ?_
  simp [cornF, hc]
theorem tak_mask {X Y Z : Int} {L : List C} (hv : Valid X Y Z L) : thoseTo Y Z (canB L) (vol X Y Z) = mask Y Z (takN L) :=
  (rep_sub hv (f := canB L) fun c h => by simp [canB] at h; exact h.1).toMask
/-- The reference's sum: over all cells, those alone that can be taken. -/
noncomputable def takS (L : List C) (i : Nat) : Int := sumF (fun j => if canB L (at3 L j) then recL takN without (without L (at3 L j)) else 0) i
theorem takS_T {L : List C} {i : Nat} (hi : i < L.length) (h : canB L (at3 L i) = true) : takS L i + recL takN without (without L (at3 L i)) = takS L (i + 1) := by
  simp only [takS, sumF, h, if_true]
theorem takS_F {L : List C} {i : Nat} (hi : i < L.length) (h : canB L (at3 L i) = false) : takS L i = takS L (i + 1) := by
  simp only [takS, sumF, h, Bool.false_eq_true, if_false, Int.add_zero]
theorem sumF_filter {g : C → Int} {p : C → Bool} : ∀ (L : List C), sumF (fun j => if p (at3 L j) then g (at3 L j) else 0) L.length = sumF (fun j => g (at3 (L.filter p) j)) (L.filter p).length := by
  have key : ∀ (L : List C) (g : C → Int), sumF (fun j => g (at3 L j)) L.length = (L.map g).sum := by
    intro L g
    have : ∀ i, i ≤ L.length → sumF (fun j => g (at3 L j)) i = ((L.take i).map g).sum := by
      intro i
      induction i with
      | zero => intro _; simp [sumF]
      | succ i ih =>
        intro hi
        simp only [sumF]
        rw [ih (by omega), take_succ3 (by omega), List.map_append, List.sum_append]
        simp
    have := this L.length (Nat.le_refl _)
    rwa [List.take_length] at this
  intro L
  rw [key (L.filter p) g, key L (fun c => if p c then g c else 0)]
  induction L with
  | nil => rfl
  | cons c L ih =>
    cases h : p c with
    | true => rw [List.filter_cons_of_pos h]; simp only [List.map_cons, List.sum_cons, h, if_true, ih]
    | false => rw [List.filter_cons_of_neg (by simp [h])]; simp only [List.map_cons, List.sum_cons, h]; rw [ih]; simp
theorem takS_all {L : List C} (h : ¬ L.length = 0) : takS L L.length = recL takN without L := by
  rw [rec_cons tak_ok h]
  exact sumF_filter (g := fun c => recL takN without (without L c)) (p := canB L) L
theorem tak_term {L : List C} (hL : L.length ≤ 18) {i : Nat} (hi : i < L.length) : 0 ≤ recL takN without (without L (at3 L i)) ∧ recL takN without (without L (at3 L i)) ≤ 355687428096000 := by
  have hb := rec_bd tak_ok 17 (without L (at3 L i)) (by have := without_lt (at3_mem hi); omega)
  have e : fac 17 = 355687428096000 := by decide
  omega
theorem takS_bd {L : List C} (hL : L.length ≤ 18) (i : Nat) (hi : i ≤ L.length) : 0 ≤ takS L i ∧ takS L i ≤ 6402373705728000 := by
  have hb := sumF_bd (g := fun j => if canB L (at3 L j) then recL takN without (without L (at3 L j)) else 0) (B := 355687428096000) (i := i) fun j hj => by
    have := tak_term hL (show j < L.length by omega)
    split <;> omega
  unfold takS
  omega
end Go.Sep
/- Pairs of neighbours, one more after the other. -/
namespace Go.Sep
open Go
set_option linter.unusedVariables false
set_option linter.unusedSimpArgs false

/-! ### Partners and cells asked -/
abbrev Prt := List (Nat × Nat)
abbrev MSt := Prt × List Nat
def getP : Prt → Nat → Option Nat
  | [], _ => none
  | e :: p, k => if e.1 = k then some e.2 else getP p k
def putP : Prt → Nat → Nat → Prt
  | [], k, v => [(k, v)]
  | e :: p, k, v => if e.1 = k then (k, v) :: p else e :: putP p k v
theorem get_put (p : Prt) (k v j : Nat) : getP (putP p k v) j = if j = k then some v else getP p j := by
  induction p with
  | nil =>
    simp only [putP, getP]
    by_cases h : k = j
    · subst h; simp
    · have : ¬ j = k := fun e => h e.symm
      simp [h, this]
  | cons e p ih =>
    simp only [putP]
    by_cases h : e.1 = k
    · rw [if_pos h]
      simp only [getP]
      by_cases g : k = j
      · subst g; simp
      · have g2 : ¬ j = k := fun e => g e.symm
        have g3 : ¬ e.1 = j := fun x => g (by omega)
        simp [g, g2, g3]
    · rw [if_neg h]
      simp only [getP]
      by_cases g : e.1 = j
      · have : ¬ j = k := by omega
        simp [g, this]
      · rw [if_neg g, ih, if_neg g]
def encP (p : Prt) : List (Value × Value) := p.map fun (e : Nat × Nat) => (.int .i64 (e.1 : Int), .int .i64 (e.2 : Int))
def encS (m : List Nat) : List (Value × Value) := m.map fun (k : Nat) => (.int .i64 (k : Int), .bool true)
theorem find_encP (k : Nat) : ∀ (p : Prt) (i : Nat), mapFind .i64 (k : Int) (encP p) i = some none ∧ getP p k = none ∧ (∀ v, putP p k v = p ++ [(k, v)]) ∨
    ∃ (j v : Nat), mapFind .i64 (k : Int) (encP p) i = some (some (i + j, .int .i64 (v : Int))) ∧ getP p k = some v ∧ ∀ w, putP p k w = p.set j (k, w)
  | [], i => .inl ⟨rfl, rfl, fun v => rfl⟩
  | e :: p, i => by
    have e0 : mapFind .i64 (k : Int) (encP (e :: p)) i = if (k : Int) = (e.1 : Int) then some (some (i, .int .i64 (e.2 : Int))) else mapFind .i64 (k : Int) (encP p) (i + 1) := by
      show mapFind .i64 _ ((Value.int .i64 (e.1 : Int), Value.int .i64 (e.2 : Int)) :: encP p) i = _
      simp only [mapFind, if_true]
    by_cases h : e.1 = k
    · refine .inr ⟨0, e.2, by rw [e0, if_pos (by omega)]; rfl, by simp [getP, h], fun w => by simp [putP, h]⟩
    · have h2 : ¬ (k : Int) = (e.1 : Int) := by omega
      rw [e0, if_neg h2]
      rcases find_encP k p (i + 1) with ⟨h3, h4, h5⟩ | ⟨j, v, h3, h4, h5⟩
      · exact .inl ⟨h3, by simp [getP, h, h4], fun v => by simp [putP, h, h5]⟩
      · exact .inr ⟨j + 1, v, by rw [h3]; congr 3; omega, by simp [getP, h, h4], fun w => by simp [putP, h, h5]⟩
theorem getP_some {p : Prt} {k v : Nat} (h : getP p k = some v) : mapGet .i64 (k : Int) (.int .i64 0) (encP p) = some (.int .i64 (v : Int), true) := by
  rcases find_encP k p 0 with ⟨h3, h4, _⟩ | ⟨j, w, h3, h4, _⟩
  · rw [h4] at h; simp at h
  · rw [h4] at h; obtain rfl := Option.some.inj h
    unfold mapGet; rw [h3]
theorem getP_none {p : Prt} {k : Nat} (h : getP p k = none) : mapGet .i64 (k : Int) (.int .i64 0) (encP p) = some (.int .i64 0, false) := by
  rcases find_encP k p 0 with ⟨h3, h4, _⟩ | ⟨j, w, h3, h4, _⟩
  · unfold mapGet; rw [h3]
  · rw [h4] at h; simp at h
theorem putP_enc (p : Prt) (k v : Nat) : mapPut .i64 (k : Int) (.int .i64 (v : Int)) (encP p) = some (encP (putP p k v)) := by
  unfold mapPut
  rcases find_encP k p 0 with ⟨h3, _, h5⟩ | ⟨j, w, h3, _, h5⟩
  · rw [h3, h5]; simp [encP]
  · rw [h3, h5]; simp [encP, List.map_set]
theorem find_encS (k : Nat) : ∀ (m : List Nat) (i : Nat), (k ∈ m → ∃ j, mapFind .i64 (k : Int) (encS m) i = some (some (j, .bool true))) ∧ (¬ k ∈ m → mapFind .i64 (k : Int) (encS m) i = some none)
  | [], i => ⟨fun h => absurd h (by simp), fun _ => rfl⟩
  | e :: m, i => by
    have e0 : mapFind .i64 (k : Int) (encS (e :: m)) i = if (k : Int) = (e : Int) then some (some (i, .bool true)) else mapFind .i64 (k : Int) (encS m) (i + 1) := by
      show mapFind .i64 _ ((Value.int .i64 (e : Int), Value.bool true) :: encS m) i = _
      simp only [mapFind, if_true]
    have ih := find_encS k m (i + 1)
    by_cases h : k = e
    · subst h
      exact ⟨fun _ => ⟨i, by rw [e0, if_pos rfl]⟩, fun h => absurd (by simp) h⟩
    · rw [e0, if_neg (by omega)]
      exact ⟨fun g => ih.1 (by simpa [h] using g), fun g => ih.2 (by simp at g; exact g.2)⟩
theorem getS_yes {m : List Nat} {k : Nat} (h : k ∈ m) : mapGet .i64 (k : Int) (.bool false) (encS m) = some (.bool true, true) := by
  obtain ⟨j, h1⟩ := (find_encS k m 0).1 h
  unfold mapGet; rw [h1]
theorem getS_no {m : List Nat} {k : Nat} (h : ¬ k ∈ m) : mapGet .i64 (k : Int) (.bool false) (encS m) = some (.bool false, false) := by
  unfold mapGet; rw [(find_encS k m 0).2 h]
theorem getS (m : List Nat) (k : Nat) : mapGet .i64 (k : Int) (.bool false) (encS m) = some (.bool (decide (k ∈ m)), decide (k ∈ m)) := by
  by_cases h : k ∈ m
  · rw [getS_yes h, decide_eq_true h]
  · rw [getS_no h, decide_eq_false h]
theorem putS_enc {m : List Nat} {k : Nat} (h : ¬ k ∈ m) : mapPut .i64 (k : Int) (.bool true) (encS m) = some (encS (m ++ [k])) := by
  unfold mapPut; rw [(find_encS k m 0).2 h]; simp [encS]
theorem encP_plain (p : Prt) : plainE (encP p) = true := by
  unfold plainE encP
  rw [List.all_eq_true]
  intro q hq
  obtain ⟨e, _, rfl⟩ := List.mem_map.mp hq
  rfl
theorem encS_plain (m : List Nat) : plainE (encS m) = true := by
  unfold plainE encS
  rw [List.all_eq_true]
  intro q hq
  obtain ⟨e, _, rfl⟩ := List.mem_map.mp hq
  rfl
/-- The reference's rows. -/
def pAt (p : Prt) (k : Nat) : Int := match getP p k with
  | some v => (v : Int)
  | none => -1
def pVals (v : Nat) (p : Prt) : List Value := (List.range v).map fun (k : Nat) => .int .i64 (pAt p k)
def sVals (v : Nat) (m : List Nat) : List Value := (List.range v).map fun (k : Nat) => .bool (decide (k ∈ m))
theorem pVals_length (v : Nat) (p : Prt) : (pVals v p).length = v := by simp [pVals]
theorem sVals_length (v : Nat) (m : List Nat) : (sVals v m).length = v := by simp [sVals]
theorem pVals_at {v k : Nat} {p : Prt} (h : k < v) : (pVals v p)[0 + k * 1]? = some (.int .i64 (pAt p k)) := by simp [pVals, h]
theorem sVals_at {v k : Nat} {m : List Nat} (h : k < v) : (sVals v m)[0 + k * 1]? = some (.bool (decide (k ∈ m))) := by simp [sVals, h]
theorem pAt_put (p : Prt) (k e j : Nat) : pAt (putP p k e) j = if j = k then (e : Int) else pAt p j := by
  unfold pAt
  rw [get_put]
  by_cases h : j = k
  · simp [h]
  · simp [h]
theorem pVals_set {v k : Nat} {p : Prt} {e : Nat} (h : k < v) : (pVals v p).set (0 + k * 1) (.int .i64 (e : Int)) = pVals v (putP p k e) := by
  refine List.ext_getElem (by simp [pVals]) fun i h1 h2 => ?_
  simp only [pVals, Nat.zero_add, Nat.mul_one, List.getElem_set, List.getElem_map, List.getElem_range, pAt_put]
  by_cases g : k = i
  · subst g; simp
  · have : ¬ i = k := fun x => g x.symm
    simp [g, this]
theorem sVals_set {v k : Nat} {m : List Nat} (h : k < v) : (sVals v m).set (0 + k * 1) (.bool true) = sVals v (m ++ [k]) := by
  refine List.ext_getElem (by simp [sVals]) fun i h1 h2 => ?_
  simp only [sVals, Nat.zero_add, Nat.mul_one, List.getElem_set, List.getElem_map, List.getElem_range]
  by_cases g : k = i
  · subst g; simp
  · have : ¬ i = k := fun x => g x.symm
    simp [g, this]
theorem pVals_plain (v : Nat) (p : Prt) : (pVals v p).all plainA = true := by simp [pVals, plainA]
theorem sVals_plain (v : Nat) (m : List Nat) : (sVals v m).all plainA = true := by simp [sVals, plainA]
theorem pVals_snoc (v : Nat) : pVals v [] ++ [.int .i64 (-1)] = pVals (v + 1) [] := by simp [pVals, List.range_succ, pAt, getP]
theorem sVals_zero (v : Nat) : zeros [.bool false] v = sVals v [] := by
  induction v with
  | zero => rfl
  | succ v ih =>
    have e : zeros [Value.bool false] (v + 1) = Value.bool false :: zeros [Value.bool false] v := rfl
    rw [e, ih]
    simp only [sVals, List.range_succ_eq_map, List.map_cons, List.map_map]
    congr 1
def pOth (p : Prt) (k : Nat) : Int := match getP p k with
  | some v => (v : Int)
  | none => 0
theorem pOth_some {p : Prt} {k e : Nat} (h : getP p k = some e) : pOth p k = (e : Int) := by unfold pOth; rw [h]
theorem getP_all (p : Prt) (k : Nat) : mapGet .i64 (k : Int) (.int .i64 0) (encP p) = some (.int .i64 (pOth p k), (getP p k).isSome) := by
  cases h : getP p k with
  | none => rw [getP_none h]; simp [pOth, h]
  | some v => rw [getP_some h]; simp [pOth, h]
theorem isSome_F {p : Prt} {k : Nat} (h : (getP p k).isSome = false) : getP p k = none := by
  cases g : getP p k with
  | none => rfl
  | some v => rw [g] at h; simp at h
theorem pAt_neg {p : Prt} {k : Nat} (h : pAt p k < 0) : getP p k = none := by
  cases g : getP p k with
  | none => rfl
  | some v => unfold pAt at h; rw [g] at h; simp only [] at h; omega
theorem pAt_pos {p : Prt} {k : Nat} (h : ¬ pAt p k < 0) : ∃ e, getP p k = some e ∧ pAt p k = (e : Int) := by
  cases g : getP p k with
  | none => unfold pAt at h; rw [g] at h; simp only [] at h; omega
  | some v => exact ⟨v, rfl, by unfold pAt; rw [g]⟩
/-! ### One search -/
section search
variable (Y Z : Int) (F : List C)
def mtL (rec : C → MSt → Bool × MSt) (ev : Nat) : List C → MSt → Bool × MSt
  | [], st => (false, st)
  | o :: rest, st =>
    if cellIx Y Z o ∈ st.2 then mtL rec ev rest st
    else match getP st.1 (cellIx Y Z o) with
      | none => (true, (putP st.1 (cellIx Y Z o) ev, st.2 ++ [cellIx Y Z o]))
      | some e => if (rec (cellAt Y Z e) (st.1, st.2 ++ [cellIx Y Z o])).1 then (true, (putP (rec (cellAt Y Z e) (st.1, st.2 ++ [cellIx Y Z o])).2.1 (cellIx Y Z o) ev, (rec (cellAt Y Z e) (st.1, st.2 ++ [cellIx Y Z o])).2.2))
        else mtL rec ev rest (rec (cellAt Y Z e) (st.1, st.2 ++ [cellIx Y Z o])).2
def mtF : Nat → C → MSt → Bool × MSt
  | 0, _, st => (false, st)
  | f + 1, c, st => mtL Y Z (mtF f) (cellIx Y Z c) (F.filter (adjF c)) st
def unm (m : List Nat) : Nat := (F.filter fun o => !decide (cellIx Y Z o ∈ m)).length
variable {Y Z F} {rec : C → MSt → Bool × MSt} {ev : Nat} {N : List C} {i : Nat} {st : MSt}
theorem drop_at3 {N : List C} {i : Nat} (h : i < N.length) : N.drop i = at3 N i :: N.drop (i + 1) := by
  rw [List.drop_eq_getElem_cons h, at3_get h]
theorem mtL_end (h : N.length ≤ i) : mtL Y Z rec ev (N.drop i) st = (false, st) := by rw [List.drop_of_length_le h]; rfl
theorem mtL_met (hi : i < N.length) (h : cellIx Y Z (at3 N i) ∈ st.2) : mtL Y Z rec ev (N.drop i) st = mtL Y Z rec ev (N.drop (i + 1)) st := by
  rw [drop_at3 hi]; simp only [mtL, h, if_true]
theorem mtL_free (hi : i < N.length) (h : ¬ cellIx Y Z (at3 N i) ∈ st.2) (hg : getP st.1 (cellIx Y Z (at3 N i)) = none) : mtL Y Z rec ev (N.drop i) st = (true, (putP st.1 (cellIx Y Z (at3 N i)) ev, st.2 ++ [cellIx Y Z (at3 N i)])) := by
  rw [drop_at3 hi]; simp only [mtL, h, if_false, hg]
theorem mtL_yes {e : Nat} (hi : i < N.length) (h : ¬ cellIx Y Z (at3 N i) ∈ st.2) (hg : getP st.1 (cellIx Y Z (at3 N i)) = some e) (hr : (rec (cellAt Y Z e) (st.1, st.2 ++ [cellIx Y Z (at3 N i)])).1 = true) :
    mtL Y Z rec ev (N.drop i) st = (true, (putP (rec (cellAt Y Z e) (st.1, st.2 ++ [cellIx Y Z (at3 N i)])).2.1 (cellIx Y Z (at3 N i)) ev, (rec (cellAt Y Z e) (st.1, st.2 ++ [cellIx Y Z (at3 N i)])).2.2)) := by
  rw [drop_at3 hi]; simp only [mtL, h, if_false, hg, hr, if_true]
theorem mtL_no {e : Nat} (hi : i < N.length) (h : ¬ cellIx Y Z (at3 N i) ∈ st.2) (hg : getP st.1 (cellIx Y Z (at3 N i)) = some e) (hr : (rec (cellAt Y Z e) (st.1, st.2 ++ [cellIx Y Z (at3 N i)])).1 = false) :
    mtL Y Z rec ev (N.drop i) st = mtL Y Z rec ev (N.drop (i + 1)) (rec (cellAt Y Z e) (st.1, st.2 ++ [cellIx Y Z (at3 N i)])).2 := by
  rw [drop_at3 hi]; simp only [mtL, h, if_false, hg, hr, Bool.false_eq_true]
theorem mtF_start {f : Nat} {c : C} {st : MSt} : mtF Y Z F (f + 1) c st = mtL Y Z (mtF Y Z F f) (cellIx Y Z c) ((F.filter (adjF c)).drop 0) st := rfl
/-- What is asked stays asked; partners lie in the box. -/
def StOk (v : Nat) (st : MSt) : Prop := ∀ k e, getP st.1 k = some e → e < v
theorem StOk.put {v : Nat} {p : Prt} {m : List Nat} (h : StOk v (p, m)) {k e : Nat} (he : e < v) (m' : List Nat) : StOk v (putP p k e, m') := fun j x hx => by
  simp only [get_put] at hx
  split at hx
  · obtain rfl := Option.some.inj hx; exact he
  · exact h j x hx
theorem StOk.mark {v : Nat} {p : Prt} {m : List Nat} (h : StOk v (p, m)) (m' : List Nat) : StOk v (p, m') := fun j x hx => h j x hx
theorem mtL_ok {X : Int} {v : Nat} (hev : ev < v) (hat : ∀ e, e < v → In X Y Z (cellAt Y Z e)) (hrec : ∀ c st, In X Y Z c → StOk v st → StOk v (rec c st).2 ∧ ∀ k ∈ st.2, k ∈ (rec c st).2.2) : ∀ (N : List C) (st : MSt), StOk v st → StOk v (mtL Y Z rec ev N st).2 ∧ ∀ k ∈ st.2, k ∈ (mtL Y Z rec ev N st).2.2
  | [], st, h => ⟨h, fun k hk => hk⟩
  | o :: N, st, h => by
    simp only [mtL]
    split
    · exact mtL_ok hev hat hrec N st h
    · split
      · exact ⟨StOk.put (m := st.2) h hev _, fun k hk => List.mem_append_left _ hk⟩
      · rename_i e he
        have hm : StOk v (st.1, st.2 ++ [cellIx Y Z o]) := StOk.mark (m := st.2) h _
        obtain ⟨r1, r2⟩ := hrec (cellAt Y Z e) _ (hat e (h _ e he)) hm
        split
        · exact ⟨StOk.put (m := (rec (cellAt Y Z e) (st.1, st.2 ++ [cellIx Y Z o])).2.2) r1 hev _, fun k hk => r2 k (List.mem_append_left _ hk)⟩
        · obtain ⟨s1, s2⟩ := mtL_ok hev hat hrec N _ r1
          exact ⟨s1, fun k hk => s2 k (r2 k (List.mem_append_left _ hk))⟩
theorem mtF_ok {X : Int} (hX : Box X Y Z) : ∀ (f : Nat) (c : C) (st : MSt), In X Y Z c → StOk (vol X Y Z) st → StOk (vol X Y Z) (mtF Y Z F f c st).2 ∧ ∀ k ∈ st.2, k ∈ (mtF Y Z F f c st).2.2
  | 0, c, st, _, h => ⟨h, fun k hk => hk⟩
  | f + 1, c, st, hin, h => mtL_ok (cellIx_lt hX hin) (fun e he => cellAt_in hX he) (fun c st hc hs => mtF_ok hX f c st hc hs) _ st h
theorem unm_mono {m m' : List Nat} (h : ∀ k ∈ m, k ∈ m') : unm Y Z F m' ≤ unm Y Z F m := by
  unfold unm
  have : (F.filter fun o => !decide (cellIx Y Z o ∈ m')) = (F.filter fun o => !decide (cellIx Y Z o ∈ m)).filter fun o => !decide (cellIx Y Z o ∈ m') := by
    rw [List.filter_filter]
    refine List.filter_congr fun o _ => ?_
    by_cases g : cellIx Y Z o ∈ m
    · simp [g, h _ g]
    · simp [g]
  rw [this]
  exact List.length_filter_le _ _
theorem unm_mark {m : List Nat} {o : C} (ho : o ∈ F) (h : ¬ cellIx Y Z o ∈ m) : unm Y Z F (m ++ [cellIx Y Z o]) < unm Y Z F m := by
  unfold unm
  have : (F.filter fun q => !decide (cellIx Y Z q ∈ m ++ [cellIx Y Z o])) = (F.filter fun q => !decide (cellIx Y Z q ∈ m)).filter fun q => !decide (cellIx Y Z q ∈ m ++ [cellIx Y Z o]) := by
    rw [List.filter_filter]
    refine List.filter_congr fun q _ => ?_
    by_cases g : cellIx Y Z q ∈ m <;> simp [g]
  rw [this]
  exact List.length_filter_lt_length_iff_exists.mpr ⟨o, List.mem_filter.mpr ⟨ho, by simp [h]⟩, by simp⟩
theorem unm_le (m : List Nat) : unm Y Z F m ≤ F.length := List.length_filter_le _ _
end search
/-! ### All searches -/
def evnB (c : C) : Bool := decide ((c.1 + c.2.1 + c.2.2).tmod 2 = 0)
def mdN (Y Z : Int) (F : List C) : Nat → Int × Prt
  | 0 => (0, [])
  | i + 1 => if evnB (at3 F i) then ((mdN Y Z F i).1 + (if (mtF Y Z F (F.length + 1) (at3 F i) ((mdN Y Z F i).2, [])).1 then 1 else 0), (mtF Y Z F (F.length + 1) (at3 F i) ((mdN Y Z F i).2, [])).2.1) else mdN Y Z F i
theorem mdN_odd {Y Z : Int} {F : List C} {i : Nat} (h : evnB (at3 F i) = false) : mdN Y Z F (i + 1) = mdN Y Z F i := by simp only [mdN, h, Bool.false_eq_true, if_false]
theorem mdN_yes {Y Z : Int} {F : List C} {i : Nat} (h : evnB (at3 F i) = true) (hr : (mtF Y Z F (F.length + 1) (at3 F i) ((mdN Y Z F i).2, [])).1 = true) : mdN Y Z F (i + 1) = ((mdN Y Z F i).1 + 1, (mtF Y Z F (F.length + 1) (at3 F i) ((mdN Y Z F i).2, [])).2.1) := by simp only [mdN, h, hr, if_true]
theorem mdN_no {Y Z : Int} {F : List C} {i : Nat} (h : evnB (at3 F i) = true) (hr : (mtF Y Z F (F.length + 1) (at3 F i) ((mdN Y Z F i).2, [])).1 = false) : mdN Y Z F (i + 1) = ((mdN Y Z F i).1, (mtF Y Z F (F.length + 1) (at3 F i) ((mdN Y Z F i).2, [])).2.1) := by simp only [mdN, h, hr, if_true, Bool.false_eq_true, if_false, Int.add_zero]
theorem mdN_ok {X Y Z : Int} {F : List C} (hF : Valid X Y Z F) : ∀ i, i ≤ F.length → StOk (vol X Y Z) ((mdN Y Z F i).2, ([] : List Nat)) ∧ 0 ≤ (mdN Y Z F i).1 ∧ (mdN Y Z F i).1 ≤ (i : Int)
  | 0, _ => ⟨fun k e h => by simp [mdN, getP] at h, by simp [mdN]⟩
  | i + 1, hi => by
    obtain ⟨h1, h2⟩ := mdN_ok hF i (by omega)
    cases he : evnB (at3 F i) with
    | false => rw [mdN_odd he]; exact ⟨h1, by omega, by omega⟩
    | true =>
      have h3 := (mtF_ok (F := F) hF.box (F.length + 1) (at3 F i) _ (hF.inn _ (at3_mem (by omega))) h1).1
      have h4 : StOk (vol X Y Z) ((mtF Y Z F (F.length + 1) (at3 F i) ((mdN Y Z F i).2, [])).2.1, ([] : List Nat)) := StOk.mark (m := (mtF Y Z F (F.length + 1) (at3 F i) ((mdN Y Z F i).2, [])).2.2) h3 _
      cases hr : (mtF Y Z F (F.length + 1) (at3 F i) ((mdN Y Z F i).2, [])).1 with
      | true => rw [mdN_yes he hr]; exact ⟨h4, by simp only []; omega, by simp only []; omega⟩
      | false => rw [mdN_no he hr]; exact ⟨h4, by simp only []; omega, by simp only []; omega⟩

/-! ### Ends: two old blocks written -/
section ends
variable {P : Program} {s : St}
theorem Ends.vM2 {fn : Func} {H : Heap} {n b c : Nat} {v v' : Value} {eb ec eb' ec' : List (Value × Value)} (hb : b < n ∧ c < n ∧ b ≠ c) (hle : OldBut [b, c] n H s.H) (hH : ∀ x, n ≤ x → H x = none) (hbk : s.H b = some (.map eb')) (hck : s.H c = some (.map ec')) (he1 : eb' = eb) (he2 : ec' = ec) (hp : plainE eb = true ∧ plainE ec = true)
    (hv : ltT n v = true) (hres : resOf P s fn.results.toList = some v') (he : v' = v) : Ends P fn H n s v ((H.set b (.map eb)).set c (.map ec)) n := by
  subst he1 he2 he
  refine ⟨id, fun _ _ => rfl, by rw [hres]; congr 1; exact (renT_id _).symm, hv, fun x d hx => ?_, fun x y _ _ h => h⟩
  by_cases e2 : x = c
  · subst e2
    rw [Heap.set_same] at hx
    obtain rfl := Option.some.inj hx
    refine .inr ⟨hb.2.1, ?_⟩
    simp only [id, hck]
    exact plainE_ren hp.2 _
  · rw [Heap.set_ne _ _ e2] at hx
    by_cases e1 : x = b
    · subst e1
      rw [Heap.set_same] at hx
      obtain rfl := Option.some.inj hx
      refine .inr ⟨hb.1, ?_⟩
      simp only [id, hbk]
      exact plainE_ren hp.1 _
    · rw [Heap.set_ne _ _ e1] at hx
      have hlt : x < n := by
        rcases Nat.lt_or_ge x n with g | g
        · exact g
        · rw [hH x g] at hx; simp at hx
      exact .inl ⟨hlt, hx, hle x d hlt (by simp [e1, e2]) hx⟩
theorem Ends.vU2 {fn : Func} {H : Heap} {n b c : Nat} {v v' : Value} {eb ec eb' ec' : List Value} (hb : b < n ∧ c < n ∧ b ≠ c) (hle : OldBut [b, c] n H s.H) (hH : ∀ x, n ≤ x → H x = none) (hbk : s.H b = some (.cells false eb')) (hck : s.H c = some (.cells false ec')) (he1 : eb' = eb) (he2 : ec' = ec) (hp : eb.all plainA = true ∧ ec.all plainA = true)
    (hv : ltT n v = true) (hres : resOf P s fn.results.toList = some v') (he : v' = v) : Ends P fn H n s v ((H.set b (.cells false eb)).set c (.cells false ec)) n := by
  subst he1 he2 he
  refine ⟨id, fun _ _ => rfl, by rw [hres]; congr 1; exact (renT_id _).symm, hv, fun x d hx => ?_, fun x y _ _ h => h⟩
  by_cases e2 : x = c
  · subst e2
    rw [Heap.set_same] at hx
    obtain rfl := Option.some.inj hx
    refine .inr ⟨hb.2.1, ?_⟩
    simp only [id, hck]
    exact ⟨rfl, plain_ren hp.2 _⟩
  · rw [Heap.set_ne _ _ e2] at hx
    by_cases e1 : x = b
    · subst e1
      rw [Heap.set_same] at hx
      obtain rfl := Option.some.inj hx
      refine .inr ⟨hb.1, ?_⟩
      simp only [id, hbk]
      exact ⟨rfl, plain_ren hp.1 _⟩
    · rw [Heap.set_ne _ _ e1] at hx
      have hlt : x < n := by
        rcases Nat.lt_or_ge x n with g | g
        · exact g
        · rw [hH x g] at hx; simp at hx
      exact .inl ⟨hlt, hx, hle x d hlt (by simp [e1, e2]) hx⟩
end ends
end Go.Sep
/- Cells that are no longer known; two blocks at the end; parts of rows. -/
namespace Go.Sep
open Go
set_option linter.unusedVariables false
set_option linter.unusedSimpArgs false

variable {P : Program} {N : Nat} {s : St} {Q : Exit → St → Prop}

/-- A cell of which nothing is known. -/
def OPQ : Value := .complex .f64 0 0

/-- A cell's value may be forgotten. -/
theorem VC.opq {β : Names} {c v : Value} (h : VC β c v) : VC β OPQ v := by
  obtain ⟨_, h2, h3⟩ := h.one
  exact ⟨h2, h3⟩

def Weak : List Value → List Value → Prop
  | [], [] => True
  | d :: ds, c :: cs => (d = c ∨ d = OPQ) ∧ Weak ds cs
  | _, _ => False
theorem Weak.len : ∀ {ds cs : List Value}, Weak ds cs → ds.length = cs.length
  | [], [], _ => rfl
  | _ :: _, _ :: _, h => by simp [Weak.len h.2]
theorem Weak.at : ∀ {ds cs : List Value} {i : Nat} {d : Value}, Weak ds cs → ds[i]? = some d → ∃ c, cs[i]? = some c ∧ (d = c ∨ d = OPQ)
  | d0 :: ds, c0 :: cs, 0, d, h, hd => by simp at hd; subst hd; exact ⟨c0, rfl, h.1⟩
  | d0 :: ds, c0 :: cs, i + 1, d, h, hd => by simp at hd; simpa using Weak.at h.2 hd
  | [], [], _, _, _, hd => by simp at hd
theorem Weak.all : ∀ {k : Nat} {cs : List Value}, cs.length = k → Weak (List.replicate k OPQ) cs
  | 0, [], _ => trivial
  | k + 1, c :: cs, h => by rw [List.replicate_succ]; exact ⟨.inr rfl, Weak.all (by simpa using h)⟩
  | 0, _ :: _, h => by simp at h
  | _ + 1, [], h => by simp at h

/-- The cells of a block may be forgotten. -/
theorem W.opq {c : Code} {ts : Temps} {H : Heap} {n b : Nat} {ro : Bool} {cs ds : List Value} (hb : H b = some (.cells ro cs)) (hw : Weak ds cs) (h : W P N c ⟨ts, H.set b (.cells ro ds), n⟩ Q) : W P N c ⟨ts, H, n⟩ Q := fun β a w hr => by
  have dom : ∀ x y, (H.set b (.cells ro ds)) x = some y → ∃ z, H x = some z ∧ z.rw = y.rw ∧ (x ≠ b → z = y) := fun x y hx => by
    by_cases e : x = b
    · subst e; rw [Heap.set_same] at hx; obtain rfl := Option.some.inj hx; exact ⟨_, hb, rfl, fun hne => absurd rfl hne⟩
    · rw [Heap.set_ne _ _ e] at hx; exact ⟨y, hx, rfl, fun _ => rfl⟩
  have hr' : Rel N β ⟨ts, H.set b (.cells ro ds), n⟩ a w := by
    refine ⟨hr.defers, hr.size, hr.tmp, ⟨fun x y hx => ?_, fun x y p q l m hxy hx hy hp hl hm => ?_⟩, hr.fresh⟩
    · by_cases e : x = b
      · subst e
        replace hx : (H.set x (.cells ro ds)) x = some y := hx
        rw [Heap.set_same] at hx; obtain rfl := Option.some.inj hx
        obtain ⟨l, hl, cc, el, fz, h1, h2, h3, h4, h5⟩ := hr.sat.ok x _ hb
        refine ⟨l, hl, cc, el, fz, h1, h2, by rw [hw.len]; exact h3, fun i v hv => ?_, h5⟩
        obtain ⟨v0, hv0, he⟩ := hw.at hv
        obtain ⟨u, hu, hvc⟩ := h4 i v0 hv0
        rcases he with rfl | rfl
        · exact ⟨u, hu, hvc⟩
        · exact ⟨u, hu, hvc.opq⟩
      · replace hx : (H.set b (.cells ro ds)) x = some y := hx
        rw [Heap.set_ne _ _ e] at hx; exact hr.sat.ok x y hx
    · obtain ⟨p', hp', hrp, _⟩ := dom x p hx
      obtain ⟨q', hq', hrq, _⟩ := dom y q hy
      exact hr.sat.sep x y p' q' l m hxy hp' hq' (hrp ▸ hp) hl hm
  refine wp_mono (h β a w hr') fun e a' w' ⟨s2, β', hQ, hn, hr2, hg⟩ => ⟨s2, β', hQ, hn, hr2, ?_⟩
  have own : ∀ k, Own β (H.set b (.cells ro ds)) k → Own β H k := fun k ⟨x, y, l, h1, h2, h3⟩ => by
    obtain ⟨z, hz, hrz, _⟩ := dom x y h1; exact ⟨x, z, l, hz, hrz ▸ h2, h3⟩
  exact { hg with
    keep := fun k hk ho => hg.keep k hk fun ho' => ho (own k ho')
    own := fun k hk => (hg.own k hk).imp (own k) id
    dom := fun x hx h2 => by
      have h3 := hg.dom x hx h2
      cases hz : (H.set b (.cells ro ds)) x with
      | none => exact absurd hz h3
      | some y => obtain ⟨z, hz', _⟩ := dom x y hz; show H x ≠ none; rw [hz']; simp }

/-- Two new blocks at the end. -/
def pick2 {α : Type} (a b : α) : Nat → α
  | 0 => a
  | _ => b
theorem Ends.v2 {fn : Func} {H : Heap} {n : Nat} {v v' : Value} (m0 m1 : Nat) {c0 c1 d0 d1 : List Value} (hm : n ≤ m0 ∧ n ≤ m1 ∧ m0 ≠ m1)
    (hle : ∀ x b, x < n → H x = some b → s.H x = some b) (hH : ∀ x, n ≤ x → H x = none) (hb0 : s.H m0 = some (.cells false d0)) (hb1 : s.H m1 = some (.cells false d1))
    (hp : c0.all plainA = true ∧ c1.all plainA = true) (hv : ltT (n + 2) v = true) (hres : resOf P s fn.results.toList = some v')
    (hd : d0 = c0 ∧ d1 = c1) (he : v' = renT (nm n 2 (pick2 m0 m1)) v) : Ends P fn H n s v ((H.set n (.cells false c0)).set (n + 1) (.cells false c1)) (n + 1 + 1) := by
  obtain ⟨rfl, rfl⟩ := hd
  refine Ends.gen 2 (pick2 m0 m1) (pick2 d0 d1) (fun x b hx => ?_) hle (fun j hj => ?_) (fun i j hi hj hij => ?_) (fun j hj => ?_) (fun j hj => ?_) hv hres he
  · by_cases e1 : x = n + 1
    · subst e1
      rw [Heap.set_same] at hx
      refine .inr ⟨by omega, by omega, ?_⟩
      rw [show n + 1 - n = 1 by omega]; exact (Option.some.inj hx).symm
    · rw [Heap.set_ne _ _ e1] at hx
      by_cases e0 : x = n
      · subst e0
        rw [Heap.set_same] at hx
        refine .inr ⟨by omega, by omega, ?_⟩
        rw [Nat.sub_self]; exact (Option.some.inj hx).symm
      · rw [Heap.set_ne _ _ e0] at hx
        refine .inl ⟨?_, hx⟩
        rcases Nat.lt_or_ge x n with g | g
        · exact g
        · rw [hH x g] at hx; simp at hx
  · obtain rfl | rfl : j = 0 ∨ j = 1 := by omega
    · exact hm.1
    · exact hm.2.1
  · obtain ⟨_, _, h1⟩ := hm
    obtain rfl | rfl : i = 0 ∨ i = 1 := by omega
    all_goals
      obtain rfl | rfl : j = 0 ∨ j = 1 := by omega
      all_goals first | (exact absurd rfl hij) | (simp only [pick2]; omega)
  · obtain rfl | rfl : j = 0 ∨ j = 1 := by omega
    · exact hb0.trans (congrArg some (congrArg (Blk.cells false) (plain_ren hp.1 0).1))
    · exact hb1.trans (congrArg some (congrArg (Blk.cells false) (plain_ren hp.2 0).1))
  · obtain rfl | rfl : j = 0 ∨ j = 1 := by omega
    · exact (plain_ren (ρ := id) hp.1 _).2
    · exact (plain_ren (ρ := id) hp.2 _).2

/-- A row's rest: k numbers from the o-th on. -/
def rowsT (b o k : Nat) : Value := .slice (if k = 0 then none else some ⟨b, o, none⟩) k (if k = 0 then 2 else 1)
theorem rowsT_zero (b o : Nat) : rowsT b o 0 = .slice none 0 2 := rfl
theorem rowsT_succ (b o k : Nat) : rowsT b o (k + 1) = .slice (some ⟨b, o, none⟩) (k + 1) 1 := rfl
theorem e_slice1 {ts : Temps} {H : Heap} {n : Nat} {t e : TypeId} {x y : Operand} {b o k : Nat} {q : IntKind} {j : Int} {sz by' : Nat} {z : List Value} {g : Bool} {d' : TD} {by'' : Nat} {z' : List Value} {g' : Bool}
    (ht : ti P t = some ⟨.slice e, sz, by', z, g⟩) (hE : ti P e = some ⟨d', 1, by'', z', g'⟩) (hx : ev ts x = some (.slice (some ⟨b, o, none⟩) (k + 1) 1)) (hy : ev ts y = some (.int q j)) (hj : j = 1) :
    E P (.slice t x (some y) none none) ts H n (rowsT b (o + 1) k) H n := by
  subst hj
  refine ⟨?_, rfl⟩
  simp only [cop, evO, hy, ev1, hx, cSlice, ht, hE, if_true]
  simp only [cBounds]
  rw [if_pos ⟨by omega, by omega⟩]
  by_cases h0 : k = 0 <;> simp [rowsT, withH, h0]
theorem e_eqNil {ts : Temps} {H : Heap} {n : Nat} {t e u : TypeId} {x y : Operand} {a : Addr} {m k : Nat} {sz by' : Nat} {z : List Value} {g : Bool} (ht : ti P t = some ⟨.slice e, sz, by', z, g⟩) (hx : ev ts x = some (.slice (some a) m k)) (hy : ev ts y = some (.slice none 0 0)) :
    E P (.binOp .eql t x y u) ts H n (.bool false) H n := ⟨by simp only [cop, ev2, hx, hy, cBin, cEq, ht]; rfl, rfl⟩
theorem OPQ_plain (k : Nat) : (List.replicate k OPQ).all plainA = true := by
  rw [List.all_eq_true]; intro x hx; rw [(List.mem_replicate.mp hx).2]; rfl
end Go.Sep
/- Counting the tables of ones and zeros with given sums. -/
namespace Go.Sep
open Go
set_option linter.unusedVariables false
set_option linter.unusedSimpArgs false

/-! ### Rows -/
/-- The rows of `n` zeros and ones with the sum `s`. -/
def rowV : Nat → Nat → List (List Int)
  | 0, s => if s = 0 then [[]] else []
  | n + 1, s => (rowV n s).map (List.cons 0) ++ (if 1 ≤ s then (rowV n (s - 1)).map (List.cons 1) else [])
theorem rowV_mem : ∀ {n s : Nat} {v : List Int}, v ∈ rowV n s → v.length = n ∧ ∀ z ∈ v, 0 ≤ z ∧ z ≤ 1
  | 0, s, v, h => by
    simp only [rowV] at h
    split at h <;> simp at h
    subst h; simp
  | n + 1, s, v, h => by
    simp only [rowV, List.mem_append, List.mem_map] at h
    rcases h with ⟨w, hw, rfl⟩ | h
    · have := rowV_mem hw
      exact ⟨by simp [this.1], fun z hz => by simp at hz; rcases hz with rfl | hz; omega; exact this.2 z hz⟩
    · split at h
      · obtain ⟨w, hw, rfl⟩ := List.mem_map.mp h
        have := rowV_mem hw
        exact ⟨by simp [this.1], fun z hz => by simp at hz; rcases hz with rfl | hz; omega; exact this.2 z hz⟩
      · simp at h
theorem rowV_len1 (s : Nat) : (rowV 1 s).length ≤ 1 := by
  obtain rfl | rfl | h : s = 0 ∨ s = 1 ∨ 2 ≤ s := by omega
  · simp [rowV]
  · simp [rowV]
  · simp [rowV, show ¬ s = 0 by omega, show ¬ s - 1 = 0 by omega]
theorem rowV_lenS : ∀ (n s : Nat), (rowV (n + 1) s).length ≤ 2 ^ n
  | 0, s => rowV_len1 s
  | n + 1, s => by
    have h1 := rowV_lenS n s
    have h2 := rowV_lenS n (s - 1)
    rw [rowV, List.length_append, List.length_map]
    have : (if 1 ≤ s then (rowV (n + 1) (s - 1)).map (List.cons (1 : Int)) else []).length ≤ 2 ^ n := by
      split
      · rw [List.length_map]; exact h2
      · simp
    rw [Nat.pow_succ]; omega
theorem rowV_len {n s : Nat} (hn : n ≤ 4) : (rowV n s).length ≤ 8 := by
  cases n with
  | zero => simp only [rowV]; split <;> simp
  | succ n =>
    have h := rowV_lenS n s
    have : 2 ^ n ≤ 2 ^ 3 := Nat.pow_le_pow_right (by omega) (by omega)
    omega
def rowI (n s i : Nat) : List Int := (rowV n s).getD i []
theorem rowI_mem {n s i : Nat} (h : i < (rowV n s).length) : rowI n s i ∈ rowV n s := by
  unfold rowI; rw [List.getD_eq_getElem?_getD, List.getElem?_eq_getElem h]; exact List.getElem_mem h
theorem rowI_len {n s i : Nat} (h : i < (rowV n s).length) : (rowI n s i).length = n := (rowV_mem (rowI_mem h)).1
theorem rowI_bd {n s i k : Nat} (h : i < (rowV n s).length) (hk : k < n) : 0 ≤ at1 (rowI n s i) k ∧ at1 (rowI n s i) k ≤ 1 := by
  have hm := rowV_mem (rowI_mem h)
  exact hm.2 _ (by unfold at1; rw [List.getD_eq_getElem?_getD, List.getElem?_eq_getElem (by omega)]; exact List.getElem_mem (by omega))
/-- What the reference's loops have. -/
def accO (m s j : Nat) : List (List Int) := (if 0 < j then (rowV m s).map (List.cons 0) else []) ++ (if 1 < j then (rowV m (s - 1)).map (List.cons 1) else [])
def accR (m s j i : Nat) : List (List Int) := accO m s j ++ ((rowV m (s - j)).take i).map (List.cons (j : Int))
theorem accR_zero (m s j : Nat) : accR m s j 0 = accO m s j := by simp [accR]
theorem accR_succ {m s j i : Nat} (h : i < (rowV m (s - j)).length) : accR m s j (i + 1) = accR m s j i ++ [(j : Int) :: rowI m (s - j) i] := by
  unfold accR rowI
  rw [List.take_add_one, List.getElem?_eq_getElem h, List.getD_eq_getElem?_getD, List.getElem?_eq_getElem h, Option.toList_some, List.map_append, ← List.append_assoc]
  rfl
theorem accR_end {m s j i : Nat} (hi : i = (rowV m (s - j)).length) (hj : j < 2) : accR m s j i = accO m s (j + 1) := by
  subst hi
  obtain rfl | rfl : j = 0 ∨ j = 1 := by omega
  · simp [accR, accO]
  · simp [accR, accO]
theorem accO_end {m s j : Nat} (h : ¬ (j < 2 ∧ j ≤ s)) (h1 : j ≤ 2) (h2 : j = 2 → 1 ≤ s) (h3 : j ≤ s + 1) : accO m s j = rowV (m + 1) s := by
  obtain rfl | rfl | rfl : j = 0 ∨ j = 1 ∨ j = 2 := by omega
  · exact absurd ⟨by omega, by omega⟩ h
  · obtain rfl : s = 0 := by omega
    simp [accO, rowV]
  · simp [accO, rowV, h2 rfl]
theorem accR_len {m s j i : Nat} (hm : m ≤ 4) : (accR m s j i).length ≤ 24 := by
  have h1 := rowV_len (s := s) hm
  have h2 := rowV_len (s := s - 1) hm
  have h3 := rowV_len (s := s - j) hm
  unfold accR accO
  rw [List.length_append, List.length_append, List.length_map, List.length_take]
  have e1 : (if 0 < j then (rowV m s).map (List.cons (0 : Int)) else []).length ≤ 8 := by split <;> simp [h1]
  have e2 : (if 1 < j then (rowV m (s - 1)).map (List.cons (1 : Int)) else []).length ≤ 8 := by split <;> simp [h2]
  omega
theorem getD_snoc_lt {α : Type} {l : List α} {a d : α} {i : Nat} (h : i < l.length) : (l ++ [a]).getD i d = l.getD i d := by
  simp [List.getD_eq_getElem?_getD, List.getElem?_append_left h]
theorem getD_snoc_eq {α : Type} {l : List α} {a d : α} : (l ++ [a]).getD l.length d = a := by
  simp [List.getD_eq_getElem?_getD]

/-! ### Tables -/
def sumL (f : List Int → Nat) : List (List Int) → Nat
  | [] => 0
  | v :: l => f v + sumL f l
theorem sumL_append (f : List Int → Nat) : ∀ (a b : List (List Int)), sumL f (a ++ b) = sumL f a + sumL f b
  | [], b => by simp [sumL]
  | v :: a, b => by simp [sumL, sumL_append f a b]; omega
theorem sumL_map (f : List Int → Nat) (g : List Int → List Int) : ∀ (a : List (List Int)), sumL f (a.map g) = sumL (fun v => f (g v)) a
  | [] => rfl
  | v :: a => by simp [sumL, sumL_map f g a]
theorem sumL_congr {f g : List Int → Nat} : ∀ {a : List (List Int)}, (∀ v ∈ a, f v = g v) → sumL f a = sumL g a
  | [], _ => rfl
  | v :: a, h => by simp only [sumL]; rw [h v (by simp), sumL_congr fun w hw => h w (by simp [hw])]
theorem sumL_zero : ∀ (a : List (List Int)), sumL (fun _ => 0) a = 0
  | [] => rfl
  | v :: a => by simp [sumL, sumL_zero a]
theorem sumL_le {f : List Int → Nat} {B : Nat} (h : ∀ v, f v ≤ B) : ∀ (a : List (List Int)), sumL f a ≤ a.length * B
  | [] => by simp [sumL]
  | v :: a => by have h1 := h v; have h2 := sumL_le h a; simp only [sumL, List.length_cons, Nat.succ_mul]; omega
def subI (l v : List Int) : List Int := List.zipWith (· - ·) l v
def okI (l : List Int) : Bool := l.all fun z => decide (0 ≤ z)
theorem subI_len {l v : List Int} (h : v.length = l.length) : (subI l v).length = l.length := by simp [subI, h]
/-- How many tables there are, as the reference counts them: row by row. -/
def tabR : List Nat → List Int → Nat
  | [], left => if left.all (fun z => decide (z = 0)) then 1 else 0
  | r :: rs, left => sumL (fun v => if okI (subI left v) then tabR rs (subI left v) else 0) (rowV left.length r)
theorem tabR_le : ∀ (rs : List Nat) (left : List Int), left.length ≤ 4 → tabR rs left ≤ 8 ^ rs.length
  | [], left, _ => by simp only [tabR]; split <;> simp
  | r :: rs, left, h => by
    have ih := fun v => tabR_le rs (subI left v) (by simp [subI]; omega)
    have h1 := sumL_le (f := fun v => if okI (subI left v) then tabR rs (subI left v) else 0) (B := 8 ^ rs.length) (fun v => by split; exact ih v; exact Nat.zero_le _) (rowV left.length r)
    have h2 := Nat.mul_le_mul_right (8 ^ rs.length) (rowV_len (n := left.length) (s := r) h)
    simp only [tabR, List.length_cons, Nat.pow_succ]
    omega
theorem tabR_4096 {rs : List Nat} {left : List Int} (h : left.length ≤ 4) (hr : rs.length ≤ 4) : tabR rs left ≤ 4096 := by
  have h1 := tabR_le rs left h
  have : 8 ^ rs.length ≤ 8 ^ 4 := Nat.pow_le_pow_right (by omega) hr
  omega
/-- The reference's loop over the rows. -/
def sumT (rs : List Nat) (left : List Int) (r i : Nat) : Nat := sumL (fun v => if okI (subI left v) then tabR rs (subI left v) else 0) ((rowV left.length r).take i)
theorem sumT_zero (rs : List Nat) (left : List Int) (r : Nat) : sumT rs left r 0 = 0 := by simp [sumT, sumL]
theorem sumT_succ {rs : List Nat} {left : List Int} {r i : Nat} (h : i < (rowV left.length r).length) : sumT rs left r (i + 1) = sumT rs left r i + (if okI (subI left (rowI left.length r i)) then tabR rs (subI left (rowI left.length r i)) else 0) := by
  unfold sumT rowI
  rw [List.take_add_one, List.getElem?_eq_getElem h, List.getD_eq_getElem?_getD, List.getElem?_eq_getElem h, sumL_append]
  simp [sumL]
theorem sumT_end {rs : List Nat} {left : List Int} {r i : Nat} (h : i = (rowV left.length r).length) : sumT rs left r i = tabR (r :: rs) left := by
  subst h; simp [sumT, tabR]
theorem sumT_le {rs : List Nat} {left : List Int} {r i : Nat} (h : left.length ≤ 4) (hr : rs.length ≤ 3) : sumT rs left r i ≤ 4096 := by
  have h1 := sumL_le (f := fun v => if okI (subI left v) then tabR rs (subI left v) else 0) (B := 512) (fun v => by
    have h1 := tabR_le rs (subI left v) (by simp [subI]; omega)
    have : 8 ^ rs.length ≤ 8 ^ 3 := Nat.pow_le_pow_right (by omega) hr
    split <;> omega) ((rowV left.length r).take i)
  have h2 : ((rowV left.length r).take i).length ≤ 8 := by rw [List.length_take]; have := rowV_len (n := left.length) (s := r) h; omega
  have h3 := Nat.mul_le_mul_right 512 h2
  unfold sumT; omega
/-- A row taken away as far as `k`. -/
def subN (l v : List Int) (k : Nat) : List Int := subI (l.take k) (v.take k) ++ l.drop k
theorem subN_zero (l v : List Int) : subN l v 0 = l := by simp [subN, subI]
theorem subN_len {l v : List Int} {k : Nat} (h : v.length = l.length) : (subN l v k).length = l.length := by simp [subN, subI, h]; omega
theorem subN_end {l v : List Int} {k : Nat} (h : v.length = l.length) (hk : k = l.length) : subN l v k = subI l v := by
  subst hk; unfold subN; rw [List.take_length, List.drop_length, ← h, List.take_length, List.append_nil]
theorem subN_at {l v : List Int} {k : Nat} (h : v.length = l.length) (hk : k < l.length) : at1 (subN l v k) k = at1 l k := by
  have e : (subI (l.take k) (v.take k)).length = k := by simp [subI, h]; omega
  unfold subN at1
  rw [List.getD_eq_getElem?_getD, List.getElem?_append_right (by omega), e, Nat.sub_self, List.getElem?_drop, Nat.add_zero, ← List.getD_eq_getElem?_getD]
theorem subN_set {l v : List Int} {k : Nat} (h : v.length = l.length) (hk : k < l.length) : (subN l v k).set k (at1 l k - at1 v k) = subN l v (k + 1) := by
  have e : (subI (l.take k) (v.take k)).length = k := by simp [subI, h]; omega
  unfold subN
  rw [List.set_append_right _ _ (by omega), e, Nat.sub_self, List.drop_eq_getElem_cons hk, List.set_cons_zero, List.take_add_one, List.take_add_one, List.getElem?_eq_getElem hk, List.getElem?_eq_getElem (by omega)]
  unfold subI at1
  rw [Option.toList_some, Option.toList_some, List.zipWith_append (by simp [h]), List.getD_eq_getElem?_getD, List.getD_eq_getElem?_getD, List.getElem?_eq_getElem hk, List.getElem?_eq_getElem (by omega)]
  simp
def okN (l v : List Int) (k : Nat) : Bool := okI (subI (l.take k) (v.take k))
theorem okN_zero (l v : List Int) : okN l v 0 = true := by simp [okN, subI, okI]
theorem okN_succ {l v : List Int} {k : Nat} (h : v.length = l.length) (hk : k < l.length) : okN l v (k + 1) = (okN l v k && decide (0 ≤ at1 l k - at1 v k)) := by
  unfold okN subI at1
  rw [List.take_add_one, List.take_add_one, List.getElem?_eq_getElem hk, List.getElem?_eq_getElem (by omega), Option.toList_some, Option.toList_some, List.zipWith_append (by simp [h]), List.getD_eq_getElem?_getD, List.getD_eq_getElem?_getD, List.getElem?_eq_getElem hk, List.getElem?_eq_getElem (by omega)]
  simp [okI]
theorem okN_T {l v : List Int} {k : Nat} (h : v.length = l.length) (hk : k < l.length) (ht : okN l v k = true) : okN l v (k + 1) = decide (0 ≤ at1 l k - at1 v k) := by rw [okN_succ h hk, ht, Bool.true_and]
theorem okN_F {l v : List Int} {k : Nat} (h : v.length = l.length) (hk : k < l.length) (ht : okN l v k = false) : okN l v (k + 1) = false := by rw [okN_succ h hk, ht, Bool.false_and]
theorem okN_end {l v : List Int} {k : Nat} (h : v.length = l.length) (hk : k = l.length) : okN l v k = okI (subI l v) := by
  subst hk; unfold okN; rw [List.take_length, ← h, List.take_length]
def okBd (l : List Int) : Prop := ∀ k, k < l.length → 0 ≤ at1 l k ∧ at1 l k ≤ 4
theorem at1_subI {l v : List Int} {k : Nat} (h : v.length = l.length) (hk : k < l.length) : at1 (subI l v) k = at1 l k - at1 v k := by
  unfold subI at1
  simp [List.getD_eq_getElem?_getD, List.getElem?_zipWith, List.getElem?_eq_getElem hk, List.getElem?_eq_getElem (show k < v.length by omega)]
theorem okI_at {l : List Int} (h : okI l = true) {k : Nat} (hk : k < l.length) : 0 ≤ at1 l k := by
  unfold okI at h
  rw [List.all_eq_true] at h
  have := h (at1 l k) (by unfold at1; rw [List.getD_eq_getElem?_getD, List.getElem?_eq_getElem hk]; exact List.getElem_mem hk)
  simpa using this
theorem okBd_sub {l : List Int} {n s i : Nat} (hl : okBd l) (hn : l.length = n) (hi : i < (rowV n s).length) (h : okI (subI l (rowI n s i)) = true) : okBd (subI l (rowI n s i)) := fun k hk => by
  have e := rowI_len hi
  rw [subI_len (by omega)] at hk
  have h1 := okI_at h (k := k) (by rw [subI_len (by omega)]; exact hk)
  rw [at1_subI (by omega) hk] at h1 ⊢
  have h2 := hl k hk
  have h3 := rowI_bd hi (show k < n by omega)
  omega

/-! ### The program's way: square by square -/
def rowS (next : List Int → Nat) : List Int → List Int → Nat → Nat
  | pre, [], R => if 0 < R then 0 else next pre
  | pre, x :: suf, R => rowS next (pre ++ [x]) suf R + (if R = 0 ∨ x = 0 then 0 else rowS next (pre ++ [x - 1]) suf (R - 1))
def zerB (l : List Int) : Bool := l.all fun z => decide (z = 0)
def tabT : List Nat → List Int → Nat
  | [], left => if zerB left then 1 else 0
  | r :: rs, left => rowS (tabT rs) [] left r
theorem rowS_eq (f : List Int → Nat) : ∀ (suf pre : List Int) (R : Nat), (∀ z ∈ suf, 0 ≤ z) → rowS f pre suf R = sumL (fun v => if okI (subI suf v) then f (pre ++ subI suf v) else 0) (rowV suf.length R)
  | [], pre, R, _ => by
    simp only [rowS, rowV, List.length_nil]
    by_cases h : R = 0
    · subst h; simp [sumL, okI, subI]
    · rw [if_pos (by omega), if_neg h]; rfl
  | x :: suf, pre, R, h => by
    have hx := h x (by simp)
    have hs : ∀ z ∈ suf, 0 ≤ z := fun z hz => h z (by simp [hz])
    simp only [rowS, rowV, List.length_cons]
    rw [sumL_append, sumL_map, rowS_eq f suf _ R hs]
    congr 1
    · refine sumL_congr fun v _ => ?_
      have e : subI (x :: suf) (0 :: v) = x :: subI suf v := by simp [subI]
      rw [e]
      simp [okI, hx]
    · by_cases h0 : R = 0
      · rw [if_pos (.inl h0), if_neg (by omega)]; rfl
      · rw [if_pos (show 1 ≤ R by omega), sumL_map]
        have e : ∀ v, subI (x :: suf) (1 :: v) = (x - 1) :: subI suf v := fun v => by simp [subI]
        by_cases hx0 : x = 0
        · rw [if_pos (.inr hx0)]
          subst hx0
          rw [show (fun v => if okI (subI (0 :: suf) (1 :: v)) = true then f (pre ++ subI (0 :: suf) (1 :: v)) else 0) = fun _ => 0 from funext fun v => by rw [e]; simp [okI], sumL_zero]
        · rw [if_neg (by omega), rowS_eq f suf _ _ hs]
          refine sumL_congr fun v _ => ?_
          rw [e]
          have : decide (0 ≤ x - 1) = true := by simp; omega
          rw [show okI ((x - 1) :: subI suf v) = okI (subI suf v) by simp only [okI, List.all_cons, this, Bool.true_and], List.append_assoc]
          rfl
theorem tab_eq : ∀ (rs : List Nat) (left : List Int), (∀ z ∈ left, 0 ≤ z) → tabT rs left = tabR rs left
  | [], left, _ => rfl
  | r :: rs, left, h => by
    simp only [tabT, tabR]
    rw [rowS_eq _ _ _ _ h]
    refine sumL_congr fun v _ => ?_
    by_cases hk : okI (subI left v) = true
    · rw [if_pos hk, if_pos hk, List.nil_append]
      exact tab_eq rs _ fun z hz => by
        have := List.all_eq_true.mp hk z hz
        simpa using this
    · rw [if_neg hk, if_neg hk]
/-- How many tables are found from square `i` on. -/
def fk (n : Nat) (rows : List Nat) (i R : Nat) (left : List Int) : Nat :=
  if i % n = 0 then (if 0 < R then 0 else tabT (rows.drop (i / n)) left) else rowS (tabT (rows.drop (i / n + 1))) (left.take (i % n)) (left.drop (i % n)) R
def mid (n : Nat) (rows : List Nat) (i R : Nat) (left : List Int) : Nat := rowS (tabT (rows.drop (i / n + 1))) (left.take (i % n)) (left.drop (i % n)) R
theorem fk_done {n : Nat} {rows : List Nat} {i R : Nat} {left : List Int} (h : i % n = 0) (hR : 0 < R) : fk n rows i R left = 0 := by unfold fk; rw [if_pos h, if_pos hR]
theorem fk_last {n : Nat} {rows : List Nat} {i R : Nat} {left : List Int} (h : i % n = 0) (hR : ¬ 0 < R) (hi : i / n = rows.length) : fk n rows i R left = if zerB left then 1 else 0 := by
  unfold fk; rw [if_pos h, if_neg hR, hi, List.drop_length]; rfl
def at1N (rows : List Nat) (k : Nat) : Nat := rows.getD k 0
theorem fk_row {n : Nat} {rows : List Nat} {i R : Nat} {left : List Int} (h : i % n = 0) (hR : ¬ 0 < R) (hi : i / n < rows.length) : fk n rows i R left = mid n rows i (at1N rows (i / n)) left := by
  unfold fk mid
  rw [if_pos h, if_neg hR, h, List.take_zero, List.drop_zero, List.drop_eq_getElem_cons hi]
  simp [tabT, at1N, List.getD_eq_getElem?_getD, List.getElem?_eq_getElem hi]
theorem fk_mid {n : Nat} {rows : List Nat} {i R : Nat} {left : List Int} (h : ¬ i % n = 0) : fk n rows i R left = mid n rows i R left := by unfold fk mid; rw [if_neg h]
theorem fk_next {n : Nat} (hn : 0 < n) {rows : List Nat} {i R : Nat} {left : List Int} (hl : left.length = n) : fk n rows (i + 1) R left = rowS (tabT (rows.drop (i / n + 1))) (left.take (i % n + 1)) (left.drop (i % n + 1)) R := by
  have hm := Nat.mod_lt i hn
  have hd := Nat.div_add_mod i n
  by_cases h : i % n + 1 = n
  · have e : i + 1 = n * (i / n + 1) := by rw [Nat.mul_succ]; omega
    have e1 : (i + 1) % n = 0 := by rw [e]; exact Nat.mul_mod_right _ _
    have e2 : (i + 1) / n = i / n + 1 := by rw [e]; exact Nat.mul_div_cancel_left _ hn
    unfold fk
    rw [if_pos e1, e2, h, ← hl, List.take_length, List.drop_length]; rfl
  · have e : i + 1 = (i % n + 1) + n * (i / n) := by omega
    have e1 : (i + 1) % n = i % n + 1 := by rw [e, Nat.add_mul_mod_self_left]; exact Nat.mod_eq_of_lt (by omega)
    have e2 : (i + 1) / n = i / n := by rw [e, Nat.add_mul_div_left _ _ hn, Nat.div_eq_of_lt (by omega)]; omega
    unfold fk
    rw [if_neg (by omega), e1, e2]
theorem mid_step {n : Nat} (hn : 0 < n) {rows : List Nat} {i R : Nat} {left : List Int} (hl : left.length = n) :
    mid n rows i R left = fk n rows (i + 1) R left + (if R = 0 ∨ at1 left (i % n) = 0 then 0 else fk n rows (i + 1) (R - 1) (left.set (i % n) (at1 left (i % n) - 1))) := by
  have hm := Nat.mod_lt i hn
  have hk : i % n < left.length := by omega
  have ea : at1 left (i % n) = left[i % n] := by unfold at1; rw [List.getD_eq_getElem?_getD, List.getElem?_eq_getElem hk]; rfl
  rw [fk_next hn hl, fk_next hn (by simpa using hl)]
  unfold mid
  rw [List.drop_eq_getElem_cons hk]
  simp only [rowS]
  have t1 : left.take (i % n + 1) = left.take (i % n) ++ [left[i % n]] := by rw [List.take_add_one, List.getElem?_eq_getElem hk]; rfl
  have t2 : (left.set (i % n) (at1 left (i % n) - 1)).take (i % n + 1) = left.take (i % n) ++ [left[i % n] - 1] := by
    rw [List.take_add_one, List.take_set_of_le (Nat.le_refl _), List.getElem?_set_self hk, ea]; rfl
  have t3 : (left.set (i % n) (at1 left (i % n) - 1)).drop (i % n + 1) = left.drop (i % n + 1) := List.drop_set_of_lt (by omega)
  rw [t1, t2, t3, ea]
theorem mid_stop {n : Nat} (hn : 0 < n) {rows : List Nat} {i R : Nat} {left : List Int} (hl : left.length = n) (h : R = 0 ∨ at1 left (i % n) = 0) : mid n rows i R left = fk n rows (i + 1) R left := by
  rw [mid_step hn hl, if_pos h, Nat.add_zero]
theorem mid_go {n : Nat} (hn : 0 < n) {rows : List Nat} {i R : Nat} {left : List Int} (hl : left.length = n) (h : ¬ R = 0) (h2 : ¬ at1 left (i % n) = 0) : mid n rows i R left = fk n rows (i + 1) R left + fk n rows (i + 1) (R - 1) (left.set (i % n) (at1 left (i % n) - 1)) := by
  rw [mid_step hn hl, if_neg (by omega)]
theorem fk_start {n : Nat} {rows : List Nat} {left : List Int} : fk n rows 0 0 left = tabT rows left := by
  unfold fk; rw [Nat.zero_mod, if_pos rfl, if_neg (by omega), Nat.zero_div, List.drop_zero]
end Go.Sep
/- The sums of a layer's rows and columns. -/
namespace Go.Sep
open Go
set_option linter.unusedVariables false
set_option linter.unusedSimpArgs false

def sumZ (g : Nat → Nat) : Nat → Nat
  | 0 => 0
  | i + 1 => sumZ g i + g i
theorem sumZ_congr {g h : Nat → Nat} : ∀ {i : Nat}, (∀ j, j < i → g j = h j) → sumZ g i = sumZ h i
  | 0, _ => rfl
  | i + 1, e => by simp only [sumZ]; rw [sumZ_congr fun j hj => e j (by omega), e i (by omega)]
theorem sumZ_le {g : Nat → Nat} (h : ∀ j, g j ≤ 1) : ∀ i, sumZ g i ≤ i
  | 0 => Nat.le_refl _
  | i + 1 => by have := sumZ_le h i; have := h i; simp only [sumZ]; omega
theorem sumZ_add (f g : Nat → Nat) : ∀ i, sumZ (fun j => f j + g j) i = sumZ f i + sumZ g i
  | 0 => rfl
  | i + 1 => by simp only [sumZ]; rw [sumZ_add f g i]; omega
theorem sumZ_none {g : Nat → Nat} : ∀ {i : Nat}, (∀ j, j < i → g j = 0) → sumZ g i = 0
  | 0, _ => rfl
  | i + 1, h => by simp only [sumZ]; rw [sumZ_none fun j hj => h j (by omega), h i (by omega)]
theorem sumZ_one {P : Prop} [Decidable P] (a : Nat) : ∀ m, sumZ (fun j => if P ∧ (j : Int) = (a : Int) then 1 else 0) m = if P ∧ a < m then 1 else 0
  | 0 => by simp [sumZ]
  | m + 1 => by
    simp only [sumZ]
    rw [sumZ_one a m]
    by_cases hP : P
    · simp only [hP, true_and]
      by_cases h1 : m = a
      · subst h1; simp
      · have h3 : ¬ ((m : Nat) : Int) = (a : Int) := by omega
        simp only [h3, if_false, Nat.add_zero]
        by_cases h2 : a < m
        · rw [if_pos h2, if_pos (by omega)]
        · rw [if_neg h2, if_neg (by omega)]
    · simp [hP]
def castL (l : List Nat) : List Int := l.map fun (x : Nat) => (x : Int)
theorem castL_len (l : List Nat) : (castL l).length = l.length := by simp [castL]
theorem castL_nn {l : List Nat} : ∀ z ∈ castL l, 0 ≤ z := fun z hz => by
  obtain ⟨x, _, rfl⟩ := List.mem_map.mp hz; omega
def lst (g : Nat → Nat) (m : Nat) : List Nat := (List.range m).map g
theorem lst_len (g : Nat → Nat) (m : Nat) : (lst g m).length = m := by simp [lst]
theorem lst_succ (g : Nat → Nat) (m : Nat) : lst g (m + 1) = lst g m ++ [g m] := by simp [lst, List.range_succ]
theorem lst_congr {g h : Nat → Nat} {m : Nat} (e : ∀ j, j < m → g j = h j) : lst g m = lst h m := List.map_congr_left fun i hi => e i (by simpa using hi)
theorem castL_snoc (l : List Nat) (x : Nat) : castL (l ++ [x]) = castL l ++ [(x : Int)] := by simp [castL]
theorem lst_at {g : Nat → Nat} {m k : Nat} (h : k < m) : at1 (castL (lst g m)) k = ((g k : Nat) : Int) := by
  unfold at1 castL lst; simp [List.getD_eq_getElem?_getD, h]
theorem lstv_get {g : Nat → Nat} {m k : Nat} (h : k < m) : (ints (castL (lst g m)))[0 + k * 1]? = some (.int .i64 ((g k : Nat) : Int)) := by
  rw [ints_at (by rw [castL_len, lst_len]; exact h), lst_at h]
theorem lst_atN {g : Nat → Nat} {m k : Nat} (h : k < m) : at1N (lst g m) k = g k := by
  unfold at1N lst; simp [List.getD_eq_getElem?_getD, h]
theorem castL_atN {l : List Nat} {k : Nat} : at1 (castL l) k = ((at1N l k : Nat) : Int) := by
  unfold at1 at1N castL
  rw [List.getD_eq_getElem?_getD, List.getD_eq_getElem?_getD, List.getElem?_map]
  cases l[k]? <;> rfl
theorem lst_set {g h : Nat → Nat} {m k : Nat} {z : Int} (hz : z = ((h k : Nat) : Int)) (e : ∀ j, j < m → j ≠ k → g j = h j) : (castL (lst g m)).set k z = castL (lst h m) := by
  subst hz
  apply List.ext_getElem?
  intro j
  unfold castL lst
  rw [List.getElem?_set]
  by_cases hj : j < m
  · by_cases hk : k = j
    · subst hk; simp [hj]
    · rw [if_neg hk]; simp [hj, e j hj (by omega)]
  · by_cases hk : k = j
    · subst hk; simp [hj]
    · rw [if_neg hk]; simp [hj]
theorem lst_zero (m : Nat) : castL (lst (fun _ => 0) m) = List.replicate m 0 := by
  apply List.ext_getElem?
  intro j
  unfold castL lst
  by_cases hj : j < m
  · simp [hj]
  · simp [hj]

/-! ### The reference's sums -/
def rowZ (v : Nat → Nat → Nat) (q i : Nat) : List Int := castL (lst (v i) q)
def rsumN (v : Nat → Nat → Nat) (q m : Nat) : List Nat := lst (fun i => sumZ (v i) q) m
def csumG (v : Nat → Nat → Nat) (i j c : Nat) : Nat := sumZ (fun a => v a c) (if c < j then i + 1 else i)
def csumN (v : Nat → Nat → Nat) (q m : Nat) : List Nat := lst (fun c => sumZ (fun a => v a c) m) q
theorem csum_start {v : Nat → Nat → Nat} {q i : Nat} : lst (csumG v i 0) q = csumN v q i := lst_congr fun c _ => by unfold csumG; rw [if_neg (by omega)]
theorem csum_end {v : Nat → Nat → Nat} {q i : Nat} : lst (csumG v i q) q = csumN v q (i + 1) := lst_congr fun c h => by unfold csumG; rw [if_pos h]
theorem csum_at {v : Nat → Nat → Nat} {i j : Nat} : csumG v i j j = sumZ (fun a => v a j) i := by unfold csumG; rw [if_neg (by omega)]
theorem csum_set {v : Nat → Nat → Nat} {q i j : Nat} {z : Int} (hz : z = ((sumZ (fun a => v a j) i : Nat) : Int) + ((v i j : Nat) : Int)) : (castL (lst (csumG v i j) q)).set j z = castL (lst (csumG v i (j + 1)) q) :=
  lst_set (by rw [hz]; unfold csumG; rw [if_pos (by omega)]; simp only [sumZ]; omega) fun c _ hc => by
    unfold csumG
    by_cases h : c < j
    · rw [if_pos h, if_pos (by omega)]
    · rw [if_neg h, if_neg (by omega)]
theorem csum_zero {v : Nat → Nat → Nat} {q : Nat} : castL (csumN v q 0) = List.replicate q 0 := lst_zero q

/-! ### The layer -/
def layB (cs : List C) (p : Nat) (k : Int) (i j : Nat) : Nat := if layC p k (i : Int) (j : Int) ∈ cs then 1 else 0
theorem layB_le (cs : List C) (p : Nat) (k : Int) (i j : Nat) : layB cs p k i j ≤ 1 := by unfold layB; split <;> omega
theorem layRow_eq (X Y Z : Int) (cs : List C) (p : Nat) (k : Int) (i : Nat) : layRow X Y Z cs p k i = rowZ (layB cs p k) (ci (X, Y, Z) (o2 p)).toNat i := by
  unfold layRow layN rowZ castL lst
  rw [List.map_map]
  refine List.map_congr_left fun j _ => ?_
  simp only [Function.comp, layV, layB]
  split <;> rfl
def cntB (cs : List C) (p : Nat) (k : Int) (o a : Nat) : Nat → Nat
  | 0 => 0
  | m + 1 => cntB cs p k o a m + (if ci (at3 cs m) p = k ∧ ci (at3 cs m) o = (a : Int) then 1 else 0)
def cntL (cs : List C) (p : Nat) (k : Int) (o r m : Nat) : List Nat := lst (fun a => cntB cs p k o a m) r
theorem cntB_le (cs : List C) (p : Nat) (k : Int) (o a : Nat) : ∀ m, cntB cs p k o a m ≤ m
  | 0 => Nat.le_refl _
  | m + 1 => by have := cntB_le cs p k o a m; simp only [cntB]; split <;> omega
theorem cnt_no {cs : List C} {p : Nat} {k : Int} {o r m : Nat} (h : ¬ ci (at3 cs m) p = k) : cntL cs p k o r (m + 1) = cntL cs p k o r m := lst_congr fun a _ => by
  simp only [cntB]; rw [if_neg (fun e => h e.1)]; rfl
theorem cnt_yes {cs : List C} {p : Nat} {k : Int} {o r m a : Nat} {z : Int} (h : ci (at3 cs m) p = k) (ha : ci (at3 cs m) o = (a : Int)) (hz : z = ((cntB cs p k o a m : Nat) : Int) + 1) : (castL (cntL cs p k o r m)).set a z = castL (cntL cs p k o r (m + 1)) :=
  lst_set (by rw [hz]; simp only [cntB]; rw [if_pos ⟨h, ha⟩]; omega) fun j _ hj => by
    simp only [cntB]; rw [if_neg (fun e => hj (by have := e.2; omega))]; rfl
theorem cnt_zero {cs : List C} {p : Nat} {k : Int} {o r : Nat} : castL (cntL cs p k o r 0) = List.replicate r 0 := lst_zero r
theorem layC_eq {p : Nat} (hp : p < 3) {k i j : Int} {c : C} : layC p k i j = c ↔ (ci c p = k ∧ ci c (o1 p) = i) ∧ j = ci c (o2 p) := by
  obtain ⟨x, y, z⟩ := c
  obtain rfl | rfl | rfl : p = 0 ∨ p = 1 ∨ p = 2 := by omega
  · simp [layC, ci, o1, o2]; constructor <;> (rintro ⟨⟩ <;> simp_all)
  · simp [layC, ci, o1, o2]; constructor <;> (rintro ⟨⟩ <;> simp_all)
  · simp [layC, ci, o1, o2]; constructor <;> (rintro ⟨⟩ <;> simp_all)
theorem layC_eq2 {p : Nat} (hp : p < 3) {k i j : Int} {c : C} : layC p k i j = c ↔ (ci c p = k ∧ ci c (o2 p) = j) ∧ i = ci c (o1 p) := by
  rw [layC_eq hp]; constructor
  · rintro ⟨⟨a, b⟩, d⟩; exact ⟨⟨a, d.symm⟩, b.symm⟩
  · rintro ⟨⟨a, b⟩, d⟩; exact ⟨⟨a, d.symm⟩, b.symm⟩
theorem take_at {L : List C} {m : Nat} (h : m < L.length) : L.take (m + 1) = L.take m ++ [at3 L m] := by
  rw [List.take_add_one, List.getElem?_eq_getElem h, Option.toList_some]
  unfold at3; rw [List.getD_eq_getElem?_getD, List.getElem?_eq_getElem h]; rfl
theorem at3_new {L : List C} (hn : L.Nodup) {m : Nat} (h : m < L.length) : at3 L m ∉ L.take m := by
  have h2 : (L.take (m + 1)).Nodup := hn.sublist (List.take_sublist _ _)
  rw [take_at h] at h2
  exact fun hm => (List.nodup_append.mp h2).2.2 _ hm _ (by simp) rfl
theorem ind_snoc {L : List C} {c x : C} (h : c ∉ L) : (if x ∈ L ++ [c] then 1 else 0) = (if x ∈ L then 1 else 0) + (if x = c then 1 else 0) := by
  by_cases h1 : x ∈ L
  · have : x ≠ c := fun e => h (e ▸ h1)
    simp [h1, this]
  · by_cases h2 : x = c <;> simp [h1, h2, h]
theorem cnt_row {X Y Z : Int} {cs : List C} (hv : Valid X Y Z cs) {p : Nat} (hp : p < 3) {k : Int} {a : Nat} : ∀ m, m ≤ cs.length → cntB cs p k (o1 p) a m = sumZ (fun j => if layC p k (a : Int) (j : Int) ∈ cs.take m then 1 else 0) (ci (X, Y, Z) (o2 p)).toNat
  | 0, _ => (sumZ_none fun j _ => by simp).symm
  | m + 1, h => by
    have hin := hv.inn _ (at3_mem (show m < cs.length by omega))
    have h2 := ciC hin (o2 p)
    simp only [cntB]
    rw [cnt_row hv hp m (by omega), take_at (by omega)]
    simp only [ind_snoc (at3_new (valid_nodup hv) (show m < cs.length by omega))]
    rw [sumZ_add]
    congr 1
    obtain ⟨b, hb⟩ : ∃ b : Nat, ci (at3 cs m) (o2 p) = (b : Int) := ⟨(ci (at3 cs m) (o2 p)).toNat, by omega⟩
    simp only [layC_eq hp, hb]
    rw [sumZ_one b]
    simp only [show b < (ci (X, Y, Z) (o2 p)).toNat by omega, and_true]
theorem cnt_col {X Y Z : Int} {cs : List C} (hv : Valid X Y Z cs) {p : Nat} (hp : p < 3) {k : Int} {a : Nat} : ∀ m, m ≤ cs.length → cntB cs p k (o2 p) a m = sumZ (fun i => if layC p k (i : Int) (a : Int) ∈ cs.take m then 1 else 0) (ci (X, Y, Z) (o1 p)).toNat
  | 0, _ => (sumZ_none fun j _ => by simp).symm
  | m + 1, h => by
    have hin := hv.inn _ (at3_mem (show m < cs.length by omega))
    have h2 := ciC hin (o1 p)
    simp only [cntB]
    rw [cnt_col hv hp m (by omega), take_at (by omega)]
    simp only [ind_snoc (at3_new (valid_nodup hv) (show m < cs.length by omega))]
    rw [sumZ_add]
    congr 1
    obtain ⟨b, hb⟩ : ∃ b : Nat, ci (at3 cs m) (o1 p) = (b : Int) := ⟨(ci (at3 cs m) (o1 p)).toNat, by omega⟩
    simp only [layC_eq2 hp, hb]
    rw [sumZ_one b]
    simp only [show b < (ci (X, Y, Z) (o1 p)).toNat by omega, and_true]
def layR (X Y Z : Int) (cs : List C) (p k : Nat) : List Nat := rsumN (layB cs p (k : Int)) (ci (X, Y, Z) (o2 p)).toNat (layK X Y Z p)
def layS (X Y Z : Int) (cs : List C) (p k : Nat) : List Nat := csumN (layB cs p (k : Int)) (ci (X, Y, Z) (o2 p)).toNat (layK X Y Z p)
theorem cntL_row {X Y Z : Int} {cs : List C} (hv : Valid X Y Z cs) {p k : Nat} (hp : p < 3) : cntL cs p (k : Int) (o1 p) (layK X Y Z p) cs.length = layR X Y Z cs p k := lst_congr fun a _ => by
  rw [cnt_row hv hp _ (Nat.le_refl _), List.take_length]; rfl
theorem cntL_col {X Y Z : Int} {cs : List C} (hv : Valid X Y Z cs) {p k : Nat} (hp : p < 3) : cntL cs p (k : Int) (o2 p) (ci (X, Y, Z) (o2 p)).toNat cs.length = layS X Y Z cs p k := lst_congr fun a _ => by
  rw [cnt_col hv hp _ (Nat.le_refl _), List.take_length]; rfl
def prodN (g : Nat → Nat) : Nat → Nat
  | 0 => 1
  | i + 1 => prodN g i * g i
theorem prodN_le {g : Nat → Nat} {B : Nat} (h : ∀ j, g j ≤ B) : ∀ i, prodN g i ≤ B ^ i
  | 0 => Nat.le_refl _
  | i + 1 => by simp only [prodN, Nat.pow_succ]; exact Nat.mul_le_mul (prodN_le h i) (h i)
def likN (X Y Z : Int) (cs : List C) (p k : Nat) : Nat := tabR (layR X Y Z cs p k) (castL (layS X Y Z cs p k))
theorem layR_len (X Y Z : Int) (cs : List C) (p k : Nat) : (layR X Y Z cs p k).length = layK X Y Z p := lst_len _ _
theorem layS_len (X Y Z : Int) (cs : List C) (p k : Nat) : (layS X Y Z cs p k).length = (ci (X, Y, Z) (o2 p)).toNat := lst_len _ _
theorem likN_le {X Y Z : Int} (hX : Box X Y Z) (cs : List C) {p : Nat} (k : Nat) : likN X Y Z cs p k ≤ 4096 := by
  have h1 := ciS hX (o1 p)
  have h2 := ciS hX (o2 p)
  exact tabR_4096 (by rw [castL_len, layS_len]; omega) (by rw [layR_len]; unfold layK; omega)
theorem lik_mul {X Y Z : Int} (hX : Box X Y Z) (cs : List C) {p k : Nat} (hk : k ≤ 4) : prodN (likN X Y Z cs p) k ≤ 281474976710656 := by
  have h := prodN_le (fun j => likN_le hX cs (p := p) j) k
  have : 4096 ^ k ≤ 4096 ^ 4 := Nat.pow_le_pow_right (by omega) hk
  omega
theorem layS_bd {X Y Z : Int} (hX : Box X Y Z) (cs : List C) (p k : Nat) : okBd (castL (layS X Y Z cs p k)) := fun j hj => by
  rw [castL_len, layS_len] at hj
  have h1 := ciS hX (o1 p)
  rw [layS, csumN, lst_at hj]
  have := sumZ_le (g := fun a => layB cs p (k : Int) a j) (fun a => layB_le cs p _ a j) (layK X Y Z p)
  have e : layK X Y Z p = (ci (X, Y, Z) (o1 p)).toNat := rfl
  omega
/-! ### The walk's small facts -/
theorem mx_ge {L : List Int} : ∀ {i j : Nat}, i < L.length → j ≤ i → at1 L j ≤ mxN L (i + 1)
  | 0, j, h, hj => by obtain rfl : j = 0 := by omega
                      rw [mxN_one (by omega)]; exact Int.le_refl _
  | i + 1, j, h, hj => by
    rw [← mxN_succ h]
    by_cases e : j = i + 1
    · subst e; omega
    · have := mx_ge (L := L) (i := i) (j := j) (by omega) (by omega); omega
theorem mx_in {L : List Int} : ∀ {i : Nat}, i < L.length → ∃ j, j ≤ i ∧ mxN L (i + 1) = at1 L j
  | 0, h => ⟨0, Nat.le_refl _, mxN_one (by omega)⟩
  | i + 1, h => by
    obtain ⟨j, hj, e⟩ := mx_in (L := L) (i := i) (by omega)
    rw [← mxN_succ h, e]
    rcases Int.le_total (at1 L j) (at1 L (i + 1)) with g | g
    · exact ⟨i + 1, Nat.le_refl _, by omega⟩
    · exact ⟨j, by omega, by omega⟩
theorem mx_pos {L : List Int} (h0 : 0 < L.length) (h : 0 < mxN L L.length) : zerB L = false := by
  obtain ⟨i, hi⟩ : ∃ i, L.length = i + 1 := ⟨L.length - 1, by omega⟩
  rw [hi] at h
  obtain ⟨j, hj, e⟩ := mx_in (L := L) (i := i) (by omega)
  cases hz : zerB L with
  | false => rfl
  | true =>
    have := List.all_eq_true.mp hz (at1 L j) (at1_mem (by omega))
    simp only [decide_eq_true_eq] at this
    omega
theorem mx_zero {L : List Int} (hb : okBd L) (h0 : 0 < L.length) (h : ¬ 0 < mxN L L.length) : zerB L = true := by
  obtain ⟨i, hi⟩ : ∃ i, L.length = i + 1 := ⟨L.length - 1, by omega⟩
  refine List.all_eq_true.mpr fun z hz => ?_
  obtain ⟨j, hj, rfl⟩ := List.getElem_of_mem hz
  have e : at1 L j = L[j] := by unfold at1; rw [List.getD_eq_getElem?_getD, List.getElem?_eq_getElem hj]; rfl
  have h1 := hb j hj
  rw [hi] at h
  have h2 := mx_ge (L := L) (i := i) (j := j) (by omega) (by omega)
  rw [← e]; simp only [decide_eq_true_eq]; omega
theorem okBd_dec {L : List Int} {k : Nat} (hb : okBd L) (hk : k < L.length) (h : ¬ at1 L k = 0) : okBd (L.set k (at1 L k - 1)) := fun j hj => by
  rw [List.length_set] at hj
  have h1 := hb j hj
  have h2 := hb k hk
  rw [at1_set]
  split <;> omega
theorem set_back {L : List Int} {k : Nat} (hk : k < L.length) : (L.set k (at1 L k - 1)).set k (at1 L k - 1 + 1) = L := by
  rw [List.set_set, show at1 L k - 1 + 1 = at1 L k by omega]
  apply List.ext_getElem?
  intro j
  rw [List.getElem?_set]
  by_cases e : k = j
  · subst e; rw [if_pos rfl, if_pos hk]; unfold at1; rw [List.getD_eq_getElem?_getD, List.getElem?_eq_getElem hk]; rfl
  · rw [if_neg e]
theorem okBd_nn {L : List Int} (hb : okBd L) : ∀ z ∈ L, 0 ≤ z := fun z hz => by
  obtain ⟨j, hj, rfl⟩ := List.getElem_of_mem hz
  have e : at1 L j = L[j] := by unfold at1; rw [List.getD_eq_getElem?_getD, List.getElem?_eq_getElem hj]; rfl
  have := hb j hj
  rw [← e]; exact this.1
def lyU (X Y Z : Int) (cs : List C) (p : Nat) (k : Int) : Nat → BitVec 64
  | 0 => 0#64
  | m + 1 => if ci (at3 cs m) p = k then lyU X Y Z cs p k m ||| (1#64 <<< (ci (at3 cs m) (o1 p) * ci (X, Y, Z) (o2 p) + ci (at3 cs m) (o2 p)).toNat) else lyU X Y Z cs p k m
theorem lyU_yes {X Y Z : Int} {cs : List C} {p m : Nat} {k : Int} (h : ci (at3 cs m) p = k) : lyU X Y Z cs p k (m + 1) = lyU X Y Z cs p k m ||| (1#64 <<< (ci (at3 cs m) (o1 p) * ci (X, Y, Z) (o2 p) + ci (at3 cs m) (o2 p)).toNat) := if_pos h
theorem lyU_no {X Y Z : Int} {cs : List C} {p m : Nat} {k : Int} (h : ¬ ci (at3 cs m) p = k) : lyU X Y Z cs p k (m + 1) = lyU X Y Z cs p k m := if_neg h
theorem layR_bd {X Y Z : Int} (hX : Box X Y Z) (cs : List C) (p k : Nat) : ∀ j, at1N (layR X Y Z cs p k) j ≤ 4 := fun j => by
  rcases Nat.lt_or_ge j (layK X Y Z p) with h | h
  · have h2 := ciS hX (o2 p)
    rw [layR, rsumN, lst_atN h]
    have := sumZ_le (g := layB cs p (k : Int) j) (fun a => layB_le cs p _ j a) (ci (X, Y, Z) (o2 p)).toNat
    omega
  · unfold at1N; rw [List.getD_eq_getElem?_getD, List.getElem?_eq_none (by rw [layR_len]; exact h)]; exact Nat.zero_le _
theorem layR_pos {X Y Z : Int} (hX : Box X Y Z) (cs : List C) (p k : Nat) : 0 < (layR X Y Z cs p k).length ∧ (layR X Y Z cs p k).length ≤ 4 := by
  have h1 := ciS hX (o1 p)
  rw [layR_len]; unfold layK; omega
theorem layS_pos {X Y Z : Int} (hX : Box X Y Z) (cs : List C) (p k : Nat) : 0 < (castL (layS X Y Z cs p k)).length ∧ (castL (layS X Y Z cs p k)).length ≤ 4 := by
  have h2 := ciS hX (o2 p)
  rw [castL_len, layS_len]; omega
theorem zerosI_eq (m : Nat) : zeros [.int .i64 0] m = ints (List.replicate m 0) := by
  induction m with
  | zero => rfl
  | succ m ih => rw [show zeros [Value.int .i64 0] (m + 1) = Value.int .i64 0 :: zeros [Value.int .i64 0] m from rfl, ih]; rfl
theorem at1_setk {L : List Int} {k : Nat} {z : Int} (hk : k < L.length) : at1 (L.set k z) k = z := by rw [at1_set, if_pos ⟨rfl, hk⟩]
end Go.Sep
/- Tables that grow; the reference's rows and tables. -/
namespace Go.Sep
open Go
set_option linter.unusedVariables false
set_option linter.unusedSimpArgs false

/-- A table at `T` with `k` rows of `w` cells. -/
def TabAt (G : Heap) (T : Nat) (Q : Nat → Nat) (w k : Nat) (row : Nat → List Value) (lo mu : Nat) : Prop :=
  G T = some (.cells false (tabV Q 1 (fun _ => w) k)) ∧ (∀ l, l < k → (lo ≤ Q l ∧ Q l < mu ∧ Q l ≠ T) ∧ G (Q l) = some (.cells false (row l))) ∧ ∀ a b, a < k → b < k → a ≠ b → Q a ≠ Q b
theorem TabAt.zero {G : Heap} {T : Nat} {Q : Nat → Nat} {w : Nat} {row : Nat → List Value} {lo mu : Nat} (h : G T = some (.cells false [])) : TabAt G T Q w 0 row lo mu :=
  ⟨h, fun l hl => absurd hl (by omega), fun a b ha => absurd ha (by omega)⟩
theorem TabAt.mono {G G' : Heap} {T : Nat} {Q : Nat → Nat} {w k k' : Nat} {row row' : Nat → List Value} {lo mu mu' : Nat} (h : TabAt G T Q w k row lo mu) (hk : k = k') (hr : ∀ l, l < k → row l = row' l) (hT : T < mu) (hm : mu ≤ mu') (ho : ∀ x b, x < mu → G x = some b → G' x = some b) : TabAt G' T Q w k' row' lo mu' := by
  subst hk
  obtain ⟨h1, h2, h3⟩ := h
  exact ⟨ho _ _ hT h1, fun l hl => by obtain ⟨a, b⟩ := h2 l hl; exact ⟨by omega, by rw [← hr l hl]; exact ho _ _ a.2.1 b⟩, h3⟩
theorem TabAt.snoc {G G' : Heap} {T T' p l : Nat} {Q : Nat → Nat} {w k k' : Nat} {row row' : Nat → List Value} {lo mu mu' : Nat} (h : TabAt G T Q w k row lo mu) (hT : G' T' = some (.cells false (tabV Q 1 (fun _ => w) k ++ [.slice (some ⟨p, 0, none⟩) l 1]))) (hl : l = w) (hk' : k' = k + 1)
    (hp : G' p = some (.cells false (row' k))) (hr : ∀ l, l < k → row l = row' l) (ho : ∀ x b, x < mu → x ≠ T → G x = some b → G' x = some b) (hb : (T' = T ∨ mu ≤ T') ∧ p ≠ T' ∧ mu ≤ p ∧ p < mu' ∧ lo ≤ p ∧ mu ≤ mu') : TabAt G' T' (updQ Q k p) w k' row' lo mu' := by
  subst hk'
  obtain ⟨h1, h2, h3⟩ := h
  refine ⟨hT.trans (congrArg some (congrArg (Blk.cells false) (tabV_snoc (w := 1) (ln := fun _ => w) hl))), fun i hi => ?_, fun a b ha hb2 hab => ?_⟩
  · by_cases e : i = k
    · subst e; rw [updQ_same]; exact ⟨by omega, hp⟩
    · rw [updQ_ne e]
      obtain ⟨g1, g2⟩ := h2 i (by omega)
      exact ⟨by omega, by rw [← hr i (by omega)]; exact ho _ _ g1.2.1 g1.2.2 g2⟩
  · by_cases e : a = k
    · subst e; rw [updQ_same, updQ_ne (by omega)]; have := (h2 b (by omega)).1; omega
    · rw [updQ_ne e]
      by_cases e2 : b = k
      · subst e2; rw [updQ_same]; have := (h2 a (by omega)).1; omega
      · rw [updQ_ne e2]; exact h3 a b (by omega) (by omega) hab
theorem TabAt.ends {P : Program} {s : St} {fn : Func} {H : Heap} {n w k T lo mu : Nat} {v v' : Value} {row : Nat → List Value} {Q : Nat → Nat} (h : TabAt s.H T Q w k row lo mu) (hT : n ≤ T ∧ n ≤ lo)
    (hle : ∀ x b, x < n → H x = some b → s.H x = some b) (hH : ∀ x, n ≤ x → H x = none) (hp : ∀ i, i < k → (row i).all plainA = true)
    (hv : ltT (n + (1 + k)) v = true) (hres : resOf P s fn.results.toList = some v') (he : ∀ ρ : Nat → Nat, ρ n = T → v' = renT ρ v) : Ends P fn H n s v (ext H n (1 + k) (tabG n 1 (fun _ => w) k row)) (n + (1 + k)) :=
  Ends.vT hT.1 (fun i hi => by obtain ⟨a, b⟩ := h.2.1 i hi; exact ⟨by omega, a.2.2, b⟩) h.2.2 hle hH h.1 rfl hp hv hres he
/-- What the reference's rows are. -/
def accI (m s j i l : Nat) : List Value := ints ((accR m s j i).getD l [])
theorem accR_len1 {m s j i : Nat} (h : i < (rowV m (s - j)).length) : (accR m s j (i + 1)).length = (accR m s j i).length + 1 := by rw [accR_succ h]; simp
theorem accI_lt {m s j i l : Nat} (h : i < (rowV m (s - j)).length) (hl : l < (accR m s j i).length) : accI m s j i l = accI m s j (i + 1) l := by
  unfold accI; rw [accR_succ h, getD_snoc_lt hl]
theorem accI_eq {m s j i : Nat} (h : i < (rowV m (s - j)).length) : accI m s j (i + 1) (accR m s j i).length = Value.int .i64 (j : Int) :: ints (rowI m (s - j) i) := by
  unfold accI; rw [accR_succ h, getD_snoc_eq]; rfl
theorem accI_end {m s j i l : Nat} (h : accR m s j i = rowV (m + 1) s) : accI m s j i l = ints (rowI (m + 1) s l) := by unfold accI rowI; rw [h]
theorem accR_nil {m s : Nat} : (accR m s 0 0).length = 0 := by simp [accR, accO]
theorem accR_next {m s j i : Nat} (hi : i = (rowV m (s - j)).length) (hj : j < 2) : accR m s j i = accR m s (j + 1) 0 := by rw [accR_zero]; exact accR_end hi hj
theorem accR_fin {m s j : Nat} (h : ¬ (j < 2 ∧ j ≤ s)) (h1 : j ≤ 2) (h2 : j = 2 → 1 ≤ s) (h3 : j ≤ s + 1) : accR m s j 0 = rowV (m + 1) s := by rw [accR_zero]; exact accO_end h h1 h2 h3
theorem rows_ext {H : Heap} {n m s : Nat} {k : Nat} (hk : k = (rowV m s).length) {g : Nat → List Value} (hg : ∀ i, i < k → g i = ints (rowI m s i)) : ext H n (1 + k) (tabG n 1 (fun _ => m) k g) = ext H n (1 + (rowV m s).length) (tabG n 1 (fun _ => m) (rowV m s).length fun i => ints (rowI m s i)) := by
  subst hk
  funext x
  unfold ext
  split
  · rename_i h
    congr 2
    cases hx : x - n with
    | zero => rfl
    | succ i => exact hg i (by omega)
  · rfl
theorem tabR_no {L : List Int} {i : Nat} (hi : i < L.length) (h : ¬ at1 L i = 0) : tabR [] L = 0 := by
  simp only [tabR]
  rw [if_neg]
  intro hz
  have := List.all_eq_true.mp hz (at1 L i) (at1_mem hi)
  exact h (by simpa using this)
theorem tabR_yes {L : List Int} {i : Nat} (hi : i = L.length) (h : ∀ j, j < i → decide (at1 L j = 0) = true) : tabR [] L = 1 := by
  simp only [tabR]
  rw [if_pos]
  refine List.all_eq_true.mpr fun z hz => ?_
  obtain ⟨j, hj, rfl⟩ := List.getElem_of_mem hz
  have e : at1 L j = L[j] := by unfold at1; rw [List.getD_eq_getElem?_getD, List.getElem?_eq_getElem hj]; rfl
  rw [← e]; exact h j (by omega)
theorem rows0 {all rs : List Nat} {o r : Nat} (h : all.drop o = r :: rs) : (ints (castL all))[o + 0 * 1]? = some (.int .i64 ((r : Nat) : Int)) := by
  have h2 : all[o]? = some r := by
    have := congrArg (fun l : List Nat => l[0]?) h
    simpa [List.getElem?_drop] using this
  unfold ints castL
  simp [h2]
theorem rows1 {all rs : List Nat} {o r : Nat} (h : all.drop o = r :: rs) : all.drop (o + 1) = rs := by
  have := congrArg (List.drop 1) h
  rw [List.drop_drop] at this
  simpa using this
theorem rows_le {all rs : List Nat} {o r : Nat} (h : all.drop o = r :: rs) (hb : ∀ k, at1N all k ≤ 4) : r ≤ 4 := by
  have h2 : all[o]? = some r := by
    have := congrArg (fun l : List Nat => l[0]?) h
    simpa [List.getElem?_drop] using this
  have := hb o
  unfold at1N at this
  rw [List.getD_eq_getElem?_getD, h2] at this
  exact this
theorem subN_at1 {l v : List Int} {k : Nat} (h : v.length = l.length) (hk : k < l.length) : at1 (subN l v (k + 1)) k = at1 l k - at1 v k := by
  rw [← subN_set h hk]; exact at1_setk (by rw [subN_len h]; exact hk)
theorem sumT_no {rs : List Nat} {left : List Int} {r i : Nat} (h : i < (rowV left.length r).length) (hk : okI (subI left (rowI left.length r i)) = false) : sumT rs left r (i + 1) = sumT rs left r i := by
  rw [sumT_succ h, if_neg (by rw [hk]; simp)]; rfl
theorem sumT_yes {rs : List Nat} {left : List Int} {r i : Nat} (h : i < (rowV left.length r).length) (hk : okI (subI left (rowI left.length r i)) = true) : sumT rs left r (i + 1) = sumT rs left r i + tabR rs (subI left (rowI left.length r i)) := by
  rw [sumT_succ h, if_pos hk]
theorem rowsT_pos {b k : Nat} (h : 0 < k) : rowsT b 0 k = .slice (some ⟨b, 0, none⟩) k 1 := by
  unfold rowsT; rw [if_neg (by omega), if_neg (by omega)]
end Go.Sep
