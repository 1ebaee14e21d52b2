/- Rows of heights, seen from a side. -/
import Derived.Test.YtkfhblkjllbejaaLayer
namespace Go.Sep
open Go
set_option linter.unusedVariables false
set_option linter.unusedSimpArgs false

variable {P : Program} {N : Nat} {ts : Temps} {H : Heap} {n : Nat}
/-- In which row a column stands. -/
def wq (Y : Int) (d q : Nat) : Nat := if d = 0 then q % Y.toNat else q / Y.toNat
def rowQ (Y : Int) (d w q : Nat) : List Nat := (List.range q).filter fun i => decide (wq Y d i = w)
def rowF (T : List Int) (Y : Int) (d w q : Nat) : List Int := (rowQ Y d w q).map (at1 T)
def ixD (Y : Int) (d w m : Nat) : Nat := if d = 0 then m * Y.toNat + w else w * Y.toNat + m
def skyN (T : List Int) (Y : Int) (d w m : Nat) : List Int := (List.range m).map fun i => at1 T (ixD Y d w i)
def skyL (X Y Z : Int) (T : List Int) (d w : Nat) : List Int := skyN T Y d w (ci (X, Y, Z) d).toNat
def skyK (X Y Z : Int) (d : Nat) : Nat := (ci (X, Y, Z) (1 - d)).toNat
theorem rowF_zero (T : List Int) (Y : Int) (d w : Nat) : rowF T Y d w 0 = [] := rfl
theorem rowF_T {T : List Int} {Y : Int} {d w q : Nat} (h : wq Y d q = w) : rowF T Y d w (q + 1) = rowF T Y d w q ++ [at1 T q] := by
  unfold rowF rowQ; rw [List.range_succ, List.filter_append]; simp only [List.filter, h, decide_true, List.map_append, List.map_cons, List.map_nil]
theorem rowF_F {T : List Int} {Y : Int} {d w q : Nat} (h : wq Y d q ≠ w) : rowF T Y d w (q + 1) = rowF T Y d w q := by
  unfold rowF rowQ; rw [List.range_succ, List.filter_append]; simp only [List.filter, h, decide_false, List.append_nil]
theorem rowF_len (T : List Int) (Y : Int) (d w q : Nat) : (rowF T Y d w q).length ≤ q := by
  unfold rowF rowQ; rw [List.length_map]; exact Nat.le_trans (List.length_filter_le _ _) (by simp)
theorem rowF_all {X Y Z : Int} (hX : Box X Y Z) {T : List Int} {d w : Nat} (hd : d < 2) (hw : w < skyK X Y Z d) : rowF T Y d w (X * Y).toNat = skyL X Y Z T d w := by
  have key : rowQ Y d w (X * Y).toNat = (List.range (ci (X, Y, Z) d).toNat).map (ixD Y d w) := by
    obtain ⟨hx, hy, _⟩ := hX
    obtain rfl | rfl : d = 0 ∨ d = 1 := by omega
    all_goals
      obtain rfl | rfl | rfl | rfl : X = 1 ∨ X = 2 ∨ X = 3 ∨ X = 4 := by omega
      all_goals
        obtain rfl | rfl | rfl | rfl : Y = 1 ∨ Y = 2 ∨ Y = 3 ∨ Y = 4 := by omega
        all_goals
          simp only [skyK, ci] at hw
          simp only [ci]
          simp at hw
          obtain rfl | rfl | rfl | rfl : w = 0 ∨ w = 1 ∨ w = 2 ∨ w = 3 := by omega
          all_goals first | rfl | decide | omega
  unfold rowF skyL skyN
  rw [key, List.map_map]; rfl
theorem skyN_length (T : List Int) (Y : Int) (d w m : Nat) : (skyN T Y d w m).length = m := by simp [skyN]
theorem skyN_succ (T : List Int) (Y : Int) (d w m : Nat) : skyN T Y d w (m + 1) = skyN T Y d w m ++ [at1 T (ixD Y d w m)] := by simp [skyN, List.range_succ]
theorem skyL_length (X Y Z : Int) (T : List Int) (d w : Nat) : (skyL X Y Z T d w).length = (ci (X, Y, Z) d).toNat := skyN_length _ _ _ _ _
theorem wq_lt {X Y Z : Int} (hX : Box X Y Z) {d q : Nat} (hd : d < 2) (hq : q < (X * Y).toNat) : wq Y d q < skyK X Y Z d := by
  obtain ⟨hx, hy, _⟩ := hX
  obtain rfl | rfl : d = 0 ∨ d = 1 := by omega
  all_goals
    obtain rfl | rfl | rfl | rfl : X = 1 ∨ X = 2 ∨ X = 3 ∨ X = 4 := by omega
    all_goals
      obtain rfl | rfl | rfl | rfl : Y = 1 ∨ Y = 2 ∨ Y = 3 ∨ Y = 4 := by omega
      all_goals
        simp only [wq, skyK, ci]
        simp at hq ⊢
        omega
theorem wq_div {Y : Int} {q : Nat} (hY : 1 ≤ Y ∧ Y ≤ 4) : (q : Int).tdiv Y = ((q / Y.toNat : Nat) : Int) ∧ (q : Int).tmod Y = ((q % Y.toNat : Nat) : Int) := by
  obtain ⟨k, rfl⟩ := Int.eq_ofNat_of_zero_le (show 0 ≤ Y by omega)
  exact ⟨rfl, rfl⟩
/-- A row's slice in the table, nil as long as the row is empty. -/
def optV (q : Nat) (m : Nat) : Value := .slice (if m = 0 then none else some ⟨q, 0, none⟩) m (if m = 0 then 0 else 1)
theorem optV_0 {q m : Nat} (h : m = 0) : optV q m = .slice none 0 0 := by subst h; rfl
theorem optV_1 {q m : Nat} (h : m ≠ 0) : optV q m = .slice (some ⟨q, 0, none⟩) m 1 := by unfold optV; rw [if_neg h, if_neg h]
def optT (Q ln : Nat → Nat) (k : Nat) : List Value := (List.range k).map fun i => optV (Q i) (ln i)
theorem optT_length (Q ln : Nat → Nat) (k : Nat) : (optT Q ln k).length = k := by simp [optT]
theorem optT_at {Q ln : Nat → Nat} {k i : Nat} (h : i < k) : (optT Q ln k)[0 + i * 1]? = some (optV (Q i) (ln i)) := by simp [optT, h]
theorem optT_zero (Q : Nat → Nat) (k : Nat) : optT Q (fun _ => 0) k = zeros [.slice none 0 0] k := by
  induction k with
  | zero => rfl
  | succ k ih =>
    have e : optT Q (fun _ => 0) (k + 1) = optT Q (fun _ => 0) k ++ [.slice none 0 0] := by simp [optT, List.range_succ, optV]
    rw [e, ih]
    clear ih e
    induction k with
    | zero => rfl
    | succ k ih => simp only [zeros, List.cons_append, List.nil_append] at ih ⊢; rw [ih]
theorem optT_set {Q ln ln' : Nat → Nat} {k i q m : Nat} (hi : i < k) (hm : m = ln' i) (h0 : m ≠ 0) (h : ∀ j, j ≠ i → ln' j = ln j) : (optT Q ln k).set (0 + i * 1) (.slice (some ⟨q, 0, none⟩) m 1) = optT (updQ Q i q) ln' k := by
  subst hm
  refine List.ext_getElem (by simp [optT]) fun j h1 h2 => ?_
  simp only [optT, List.length_map, List.length_range, List.length_set] at h1 h2
  rw [List.getElem_set]
  simp only [optT, List.getElem_map, List.getElem_range]
  by_cases e : i = j
  · subst e; rw [if_pos (by omega), updQ_same, optV_1 h0]
  · rw [if_neg (by omega), updQ_ne (by omega), h j (by omega)]
theorem optT_full {Q ln : Nat → Nat} {k : Nat} (h : ∀ i, i < k → ln i ≠ 0) : optT Q ln k = tabV Q 1 ln k := List.map_congr_left fun i hi => optV_1 (h i (by simpa using hi))
def delO (H : Heap) (q k : Nat) : Heap := if k = 0 then H else H.del q
theorem look_delO {H : Heap} {q k y : Nat} {c : Blk} (h : y ≠ q ∨ k = 0) (hy : H y = some c) : delO H q k y = some c := by
  unfold delO
  split
  · exact hy
  · unfold Heap.del; rw [if_neg (by omega)]; exact hy
theorem Keeps.delO {U : List Nat} {m q k : Nat} {G0 G : Heap} (h : Keeps U m G0 G) (hx : m ≤ q ∨ q ∈ U ∨ k = 0) : Keeps U m G0 (delO G q k) := by
  unfold Go.Sep.delO
  split
  · exact h
  · exact h.del (by rcases hx with g | g | g; exact .inl g; exact .inr g; omega)
theorem Keeps.delO2 {U : List Nat} {m q k : Nat} {G0 G : Heap} (h : Keeps U m G0 G) (hx : m ≤ q ∨ k = 0) : Keeps U m G0 (Go.Sep.delO G q k) := h.delO (by rcases hx with g | g; exact .inl g; exact .inr (.inr g))
theorem app_opt {t t1 e e1 : TypeId} {x y : Operand} {q k m : Nat} {cs xs : List Value} {sv : Value} {sz by' : Nat} {z : List Value} {g : Bool} {sz1 by1 : Nat} {z1 : List Value} {g1 : Bool}
    {d' : TD} {by'' : Nat} {z' : List Value} {g' : Bool} (ht : ti P t = some ⟨.slice e, sz, by', z, g⟩) (ht1 : ti P t1 = some ⟨.slice e1, sz1, by1, z1, g1⟩) (hE : ti P e = some ⟨d', 1, by'', z', g'⟩)
    (hx : ev ts x = some (optV q k)) (hy : ev ts y = some sv) (hH : k ≠ 0 → H q = some (.cells false cs)) (h0 : k = 0 → cs = []) (hT : cTake H 1 sv = some (m + 1, xs))
    (hk : by'' ≤ 2 ^ 16 ∧ z'.length = 1) (hl : cs.length = k) (hkm : k + (m + 1) ≤ 2 ^ 24) :
    E P (.call { callee := .builtin .append, args := #[x, y], argTypes := #[t, t1] }) ts H n (.slice (some ⟨n, 0, none⟩) (k + (m + 1)) 1) ((delO H q k).set n (.cells false (cs ++ xs))) (n + 1) := by
  refine ⟨?_, rfl⟩
  simp only [cop, cBuiltin, hx, hy]
  unfold cAppend
  simp only [List.getElem?_toArray, List.getElem?_cons_zero, List.getElem?_cons_succ, ht, ht1, hE, hT]
  rw [if_pos ⟨hk.1, hk.2, by omega⟩]
  by_cases hz : k = 0
  · have e1 := h0 hz
    subst hz; subst e1
    rw [optV_0 rfl]
    simp [delO]; omega
  · rw [optV_1 hz]
    simp [delO, hH hz, hz, hl]; omega
theorem pair_get {Y : Int} {d q : Nat} (hd : d < 2) (hY : 1 ≤ Y ∧ Y ≤ 4) : [Value.int .i64 ((q : Int).tdiv Y), Value.int .i64 ((q : Int).tmod Y)][0 + (1 - d) * 1]? = some (.int .i64 ((wq Y d q : Nat) : Int)) := by
  have h := wq_div (q := q) hY
  rw [h.1, h.2]
  obtain rfl | rfl : d = 0 ∨ d = 1 := by omega
  all_goals rfl
theorem ixD_0 {Y : Int} {w m : Nat} (hY : 1 ≤ Y) : (m : Int) * Y + (w : Int) = ((ixD Y 0 w m : Nat) : Int) := by
  obtain ⟨k, rfl⟩ := Int.eq_ofNat_of_zero_le (show 0 ≤ Y by omega)
  simp [ixD]
theorem ixD_1 {Y : Int} {d w m : Nat} (hY : 1 ≤ Y) (hd : ¬ d = 0) : (w : Int) * Y + (m : Int) = ((ixD Y d w m : Nat) : Int) := by
  obtain ⟨k, rfl⟩ := Int.eq_ofNat_of_zero_le (show 0 ≤ Y by omega)
  simp [ixD, hd]
theorem ixD_lt {X Y Z : Int} (hX : Box X Y Z) {d w m : Nat} (hd : d < 2) (hw : w < skyK X Y Z d) (hm : m < (ci (X, Y, Z) d).toNat) : ixD Y d w m < (X * Y).toNat := by
  obtain ⟨hx, hy, _⟩ := hX
  obtain rfl | rfl : d = 0 ∨ d = 1 := by omega
  all_goals
    obtain rfl | rfl | rfl | rfl : X = 1 ∨ X = 2 ∨ X = 3 ∨ X = 4 := by omega
    all_goals
      obtain rfl | rfl | rfl | rfl : Y = 1 ∨ Y = 2 ∨ Y = 3 ∨ Y = 4 := by omega
      all_goals
        simp only [skyK, ci] at hw hm
        simp at hw hm
        simp only [ixD]
        simp
        omega
/-- Greatest numbers. -/
def mxN (L : List Int) (i : Nat) : Int := (L.take i).foldl max (at1 L 0)
def mx0 (L : List Int) (i : Nat) : Int := (L.take i).foldl max 0
theorem mxN_one {L : List Int} (h : 0 < L.length) : mxN L 1 = at1 L 0 := by
  unfold mxN
  rw [show 1 = 0 + 1 from rfl, take_succ1 h]; simp [at1]
theorem mxN_succ {L : List Int} {i : Nat} (h : i < L.length) : max (mxN L i) (at1 L i) = mxN L (i + 1) := by
  unfold mxN; rw [take_succ1 h, List.foldl_append]; rfl
theorem mx0_zero (L : List Int) : mx0 L 0 = 0 := rfl
theorem mx0_succ {L : List Int} {i : Nat} (h : i < L.length) : max (mx0 L i) (at1 L i) = mx0 L (i + 1) := by
  unfold mx0; rw [take_succ1 h, List.foldl_append]; rfl
theorem mx_eq {L : List Int} (hb : ∀ j, 0 ≤ at1 L j) : ∀ i, i + 1 ≤ L.length → mxN L (i + 1) = mx0 L (i + 1)
  | 0, h => by
    rw [mxN_one (by omega), ← mx0_succ (by omega), mx0_zero]
    have := hb 0
    omega
  | i + 1, h => by rw [← mxN_succ (by omega), ← mx0_succ (by omega), mx_eq hb i (by omega)]
theorem mx_all {L : List Int} (hb : ∀ j, 0 ≤ at1 L j) (h : 0 < L.length) : mxN L L.length = mx0 L L.length := by
  obtain ⟨i, e⟩ : ∃ i, L.length = i + 1 := ⟨L.length - 1, by omega⟩
  rw [e]; exact mx_eq hb i (by omega)
theorem skyL_at {X Y Z : Int} {T : List Int} {d w m : Nat} (h : m < (ci (X, Y, Z) d).toNat) : at1 (skyL X Y Z T d w) m = at1 T (ixD Y d w m) := by
  simp [skyL, skyN, at1, h]
theorem skyL_bd {X Y Z : Int} {T : List Int} {d w : Nat} (hb : ∀ j, 0 ≤ at1 T j) (m : Nat) : 0 ≤ at1 (skyL X Y Z T d w) m := by
  rcases Nat.lt_or_ge m (ci (X, Y, Z) d).toNat with h | h
  · rw [skyL_at h]; exact hb _
  · have := skyL_length X Y Z T d w
    simp only [at1, List.getD_eq_getElem?_getD]
    rw [List.getElem?_eq_none (by omega)]; simp
def skyM (X Y Z : Int) (T : List Int) (d i : Nat) : List Int := (List.range i).map fun w => mx0 (skyL X Y Z T d w) (skyL X Y Z T d w).length
theorem skyM_zero (X Y Z : Int) (T : List Int) (d : Nat) : skyM X Y Z T d 0 = [] := rfl
theorem skyM_succ (X Y Z : Int) (T : List Int) (d i : Nat) : skyM X Y Z T d (i + 1) = skyM X Y Z T d i ++ [mx0 (skyL X Y Z T d i) (skyL X Y Z T d i).length] := by simp [skyM, List.range_succ]
theorem skyM_length (X Y Z : Int) (T : List Int) (d i : Nat) : (skyM X Y Z T d i).length = i := by simp [skyM]
theorem within_flat {d : Nat} (h : d < 2) : within (d : Int) 0 1 = true := by simp [within]; omega
theorem flat_nat {p : Int} (h : within p 0 1 = true) : ∃ d : Nat, p = d ∧ d < 2 := by
  simp [within] at h; exact ⟨p.toNat, by omega, by omega⟩
end Go.Sep
