/- Functions that make many blocks; rows of rows. -/
import Derived.Test.YtkfhblkjllbejaaRules3
namespace Go.Sep
open Go
set_option linter.unusedVariables false
set_option linter.unusedSimpArgs false

variable {P : Program} {N : Nat} {s : St}
/-- Some new blocks. -/
def ext (H : Heap) (n k : Nat) (g : Nat → List Value) : Heap := fun x => if n ≤ x ∧ x < n + k then some (.cells false (g (x - n))) else H x
theorem ext_old {H : Heap} {n k y : Nat} {g : Nat → List Value} {c : Blk} (h : y < n) (hy : H y = some c) : ext H n k g y = some c := by
  unfold ext; rw [if_neg (by omega)]; exact hy
theorem ext_new {H : Heap} {n k i y : Nat} {g : Nat → List Value} (hi : i < k) (hy : y = n + i) : ext H n k g y = some (.cells false (g i)) := by
  subst hy; unfold ext; rw [if_pos ⟨by omega, by omega⟩, Nat.add_sub_cancel_left]
theorem old_ext {H G : Heap} {n m k : Nat} {g : Nat → List Value} (h : ∀ x b, x < n → H x = some b → G x = some b) (hm : n ≤ m) : ∀ x b, x < n → H x = some b → ext G m k g x = some b := fun x b hx hb => ext_old (by omega) (h x b hx hb)
theorem Keeps.ext {U : List Nat} {m n k : Nat} {G0 G : Heap} {g : Nat → List Value} (h : Keeps U m G0 G) (hm : m ≤ n) : Keeps U m G0 (ext G n k g) := fun x hx hu => by
  unfold Go.Sep.ext; rw [if_neg (by omega)]; exact h x hx hu
theorem OldBut.ext {U : List Nat} {n m k : Nat} {H G : Heap} {g : Nat → List Value} (h : OldBut U n H G) (hm : n ≤ m) : OldBut U n H (ext G m k g) := fun x c hx hu hc => ext_old (by omega) (h x c hx hu hc)
theorem Ends.vX {fn : Func} {H : Heap} {n : Nat} {v v' : Value} (k : Nat) (f : Nat → Nat) (bs : Nat → List Value)
    (hle : ∀ x b, x < n → H x = some b → s.H x = some b) (hH : ∀ x, n ≤ x → H x = none) (hf : ∀ j, j < k → n ≤ f j) (hinj : ∀ i j, i < k → j < k → i ≠ j → f i ≠ f j)
    (hb : ∀ j, j < k → s.H (f j) = some (.cells false ((bs j).map (renC (nm n k f))))) (hlt : ∀ j, j < k → (bs j).all (ltC (n + k)) = true)
    (hv : ltT (n + k) v = true) (hres : resOf P s fn.results.toList = some v') (he : v' = renT (nm n k f) v) : Ends P fn H n s v (ext H n k bs) (n + k) :=
  Ends.gen k f bs (fun x b hx => by
    unfold ext at hx
    split at hx
    · rename_i h; exact .inr ⟨h.1, h.2, (Option.some.inj hx).symm⟩
    · refine .inl ⟨?_, hx⟩
      rcases Nat.lt_or_ge x n with g | g
      · exact g
      · rw [hH x g] at hx; simp at hx) hle hf hinj hb hlt hv hres he
section drawnX
variable {ops : Array Oper} {r : List Oper} {K : St → Prop} {ts : Temps} {H : Heap} {n : Nat} {t : Tmp} {op : Op} {ty : TypeId} {pos : String} {after : Array Edge} {gd : Option (Nat × Bool)} {v : Value} {m j : Nat} {ms : List Nat} {acc : List (Nat × Foot)}
/-- A drawn call that makes some blocks. -/
theorem dCX {f : FuncId} {args : List Value} {k : Nat} {g : Nat → List Value} (hd : okDst N (some t) = true) (hw : wantC ops ⟨some t, op, ty, pos, after, gd⟩ ts = some true) (hkd : kindOf op ts = .eff 0 0 []) (hc : calleeOf ts op = some (f, args))
    (hf : Fn P f args (hide (hidden m acc) n H) n v (ext (hide (hidden m acc) n H) n k g) (n + k)) (ha : accOk m (.eff n (n + k) []) acc) (hu : ∀ x ∈ hidden m acc, x < n)
    (hk : wopsD P N ops r ms (j + 1) ((j, .eff n (n + k) []) :: acc) ⟨(t, v) :: ts, ext H n k g, n + k⟩ K) : wopsD P N ops (⟨some t, op, ty, pos, after, gd⟩ :: r) (m :: ms) j acc ⟨ts, H, n⟩ K := by
  simp only [wopsD, hd, hw, hkd, putT]
  refine ⟨trivial, [], by simp, ?_⟩
  simp only [stepOp, hc]
  refine ⟨v, _, n + k, hf, by omega, fun y hy _ hu => by unfold ext hide; rw [if_neg (by omega), if_pos ⟨hy, hu⟩], ha, ?_⟩
  have : unhide (hidden m acc) (n + k) H (ext (hide (hidden m acc) n H) n k g) = ext H n k g := by
    funext y
    unfold unhide ext
    by_cases h1 : n ≤ y ∧ y < n + k
    · rw [if_pos h1, if_pos h1, if_pos ⟨h1.2, fun hh => by have := hu y hh; omega⟩]
    · rw [if_neg h1, if_neg h1]
      split
      · rename_i hh
        unfold hide
        rw [if_pos ⟨by omega, hh.2⟩]
      · rfl
  rw [this]; exact hk
end drawnX

/-! ### Rows of rows -/
/-- A row's slice, in a table. -/
def tabV (Q : Nat → Nat) (w : Nat) (ln : Nat → Nat) (k : Nat) : List Value := (List.range k).map fun i => .slice (some ⟨Q i, 0, none⟩) (ln i) w
theorem tabV_zero (Q : Nat → Nat) (w : Nat) (ln : Nat → Nat) : tabV Q w ln 0 = [] := rfl
theorem tabV_length (Q : Nat → Nat) (w : Nat) (ln : Nat → Nat) (k : Nat) : (tabV Q w ln k).length = k := by simp [tabV]
theorem tabV_at {Q : Nat → Nat} {w : Nat} {ln : Nat → Nat} {k i : Nat} (h : i < k) : (tabV Q w ln k)[0 + i * 1]? = some (.slice (some ⟨Q i, 0, none⟩) (ln i) w) := by simp [tabV, h]
theorem tabV_congr {Q Q' : Nat → Nat} {w : Nat} {ln ln' : Nat → Nat} {k : Nat} (h : ∀ i, i < k → Q i = Q' i ∧ ln i = ln' i) : tabV Q w ln k = tabV Q' w ln' k :=
  List.map_congr_left fun i hi => by obtain ⟨h1, h2⟩ := h i (by simpa using hi); rw [h1, h2]
def updQ (Q : Nat → Nat) (d q : Nat) : Nat → Nat := fun k => if k = d then q else Q k
theorem updQ_same (Q : Nat → Nat) (d q : Nat) : updQ Q d q d = q := if_pos rfl
theorem updQ_ne {Q : Nat → Nat} {d q k : Nat} (h : k ≠ d) : updQ Q d q k = Q k := if_neg h
theorem tabV_snoc {Q : Nat → Nat} {w : Nat} {ln : Nat → Nat} {k q m : Nat} (h : m = ln k) : tabV Q w ln k ++ [.slice (some ⟨q, 0, none⟩) m w] = tabV (updQ Q k q) w ln (k + 1) := by
  subst h
  have e : tabV (updQ Q k q) w ln (k + 1) = tabV (updQ Q k q) w ln k ++ [.slice (some ⟨updQ Q k q k, 0, none⟩) (ln k) w] := by simp [tabV, List.range_succ]
  rw [e, updQ_same]
  congr 1
  exact tabV_congr fun i hi => ⟨(updQ_ne (by omega)).symm, rfl⟩
/-- The canonical table: its rows behind it. -/
def tabG (n w : Nat) (ln : Nat → Nat) (k : Nat) (row : Nat → List Value) : Nat → List Value
  | 0 => tabV (fun i => n + 1 + i) w ln k
  | i + 1 => row i
theorem tab_look0 {H : Heap} {n w k m : Nat} {ln : Nat → Nat} {row : Nat → List Value} (hm : m = 1 + k) : ext H n m (tabG n w ln k row) n = some (.cells false (tabV (fun i => n + 1 + i) w ln k)) := ext_new (i := 0) (by omega) (by omega)
theorem tab_lookR {H : Heap} {n w k m i : Nat} {ln : Nat → Nat} {row : Nat → List Value} (hm : m = 1 + k) (hi : i < k) : ext H n m (tabG n w ln k row) (n + 1 + i) = some (.cells false (row i)) := ext_new (i := i + 1) (by omega) (by omega)
/-- The end of a body that makes a table. -/
theorem Ends.vT {fn : Func} {H : Heap} {n w k T : Nat} {v v' : Value} {ln : Nat → Nat} {row : Nat → List Value} {Q : Nat → Nat} {cs : List Value} (hT : n ≤ T) (hQ : ∀ i, i < k → n ≤ Q i ∧ Q i ≠ T ∧ s.H (Q i) = some (.cells false (row i))) (hD : ∀ i j, i < k → j < k → i ≠ j → Q i ≠ Q j)
    (hle : ∀ x b, x < n → H x = some b → s.H x = some b) (hH : ∀ x, n ≤ x → H x = none) (hb : s.H T = some (.cells false cs)) (hcs : cs = tabV Q w ln k) (hp : ∀ i, i < k → (row i).all plainA = true)
    (hv : ltT (n + (1 + k)) v = true) (hres : resOf P s fn.results.toList = some v') (he : ∀ ρ : Nat → Nat, ρ n = T → v' = renT ρ v) : Ends P fn H n s v (ext H n (1 + k) (tabG n w ln k row)) (n + (1 + k)) := by
  subst hcs
  let f : Nat → Nat := fun j => if j = 0 then T else Q (j - 1)
  have f0 : f 0 = T := rfl
  have fS : ∀ i, f (i + 1) = Q i := fun i => by show (if i + 1 = 0 then T else Q (i + 1 - 1)) = Q i; rw [if_neg (by omega), Nat.add_sub_cancel]
  have hnm : ∀ i, i < k → nm n (1 + k) f (n + 1 + i) = Q i := fun i hi => by
    simp only [nm]
    rw [if_neg (by omega), if_pos (by omega), show n + 1 + i - n = i + 1 by omega, fS]
  have split : ∀ j, j < 1 + k → j = 0 ∨ ∃ i, i < k ∧ j = i + 1 := fun j hj => by
    rcases Nat.eq_zero_or_pos j with e | e
    · exact .inl e
    · exact .inr ⟨j - 1, by omega, by omega⟩
  refine Ends.vX (1 + k) f (tabG n w ln k row) hle hH (fun j hj => ?_) (fun i j hi hj hij => ?_) (fun j hj => ?_) (fun j hj => ?_) hv hres (he _ (by simp only [nm]; rw [if_neg (by omega), if_pos (by omega), Nat.sub_self, f0]))
  · rcases split j hj with rfl | ⟨i, hi, rfl⟩
    · exact hT
    · rw [fS]; exact (hQ i hi).1
  · rcases split i hi with rfl | ⟨a, ha, rfl⟩ <;> rcases split j hj with rfl | ⟨b, hb, rfl⟩
    · exact absurd rfl hij
    · rw [f0, fS]; exact fun e => (hQ b hb).2.1 e.symm
    · rw [f0, fS]; exact (hQ a ha).2.1
    · rw [fS, fS]; exact hD a b ha hb (by omega)
  · rcases split j hj with rfl | ⟨i, hi, rfl⟩
    · rw [f0, hb]
      congr 2
      unfold tabG tabV
      rw [List.map_map]
      refine List.map_congr_left fun i hi => ?_
      simp only [Function.comp, renC, renA]
      rw [hnm i (by simpa using hi)]
    · rw [fS, (hQ i hi).2.2]
      exact congrArg some (congrArg (Blk.cells false) (plain_ren (hp i hi) 0).1)
  · rcases split j hj with rfl | ⟨i, hi, rfl⟩
    · simp only [tabG, tabV, List.all_eq_true, List.mem_map, List.mem_range]
      rintro v ⟨i, hi, rfl⟩
      simp [ltC, ltA]; omega
    · exact (plain_ren (ρ := id) (hp i hi) _).2
end Go.Sep
