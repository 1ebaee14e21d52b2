/- Cells to which neighbours lead. -/
import Derived.Test.YtkfhblkjllbejaaSets8
namespace Go.Sep
open Go
set_option linter.unusedVariables false
set_option linter.unusedSimpArgs false

/-- Cells to which steps of a relation lead within some cells, from some of them. -/
inductive Rch (adj : C → C → Prop) (A B : C → Prop) : C → Prop
  | base {c : C} : A c → B c → Rch adj A B c
  | step {c e : C} : Rch adj A B c → adj c e → A e → Rch adj A B e
theorem Rch.mem {adj : C → C → Prop} {A B : C → Prop} {c : C} (h : Rch adj A B c) : A c := by
  cases h with
  | base h _ => exact h
  | step _ _ h => exact h
theorem Rch.mono {adj : C → C → Prop} {A B B' : C → Prop} (hB : ∀ c, B c → B' c) {c : C} (h : Rch adj A B c) : Rch adj A B' c := by
  induction h with
  | base h1 h2 => exact .base h1 (hB _ h2)
  | step _ h2 h3 ih => exact .step ih h2 h3
theorem Rch.trans {adj : C → C → Prop} {A B : C → Prop} {c e : C} (h : Rch adj A B c) (k : Rch adj A (fun x => x = c) e) : Rch adj A B e := by
  induction k with
  | base h1 h2 => subst h2; exact h
  | step _ h2 h3 ih => exact .step ih h2 h3
theorem Rch.symm {adj : C → C → Prop} (hs : ∀ a b, adj a b → adj b a) {A : C → Prop} {c e : C} (h : Rch adj A (fun x => x = c) e) : Rch adj A (fun x => x = e) c := by
  induction h with
  | base h1 h2 => subst h2; exact .base h1 rfl
  | @step d f h1 h2 h3 ih =>
    have : Rch adj A (fun x => x = f) d := .step (.base h3 rfl) (hs _ _ h2) h1.mem
    exact this.trans ih
theorem Rch.from {adj : C → C → Prop} {A B : C → Prop} {e : C} (h : Rch adj A B e) : ∃ c, A c ∧ B c ∧ Rch adj A (fun x => x = c) e := by
  induction h with
  | base h1 h2 => exact ⟨_, h1, h2, .base h1 rfl⟩
  | step _ h2 h3 ih =>
    obtain ⟨c, h4, h5, h6⟩ := ih
    exact ⟨c, h4, h5, .step h6 h2 h3⟩
theorem Rch.congr {adj : C → C → Prop} {A A' B B' : C → Prop} (hA : ∀ c, A c → A' c) (hB : ∀ c, A c → B c → B' c) {c : C} (h : Rch adj A B c) : Rch adj A' B' c := by
  induction h with
  | base h1 h2 => exact .base (hA _ h1) (hB _ h1 h2)
  | step _ h2 h3 ih => exact .step ih h2 (hA _ h3)

/-- One cell is next to another one. -/
def adjR (c e : C) : Prop := apartI e c = 1
instance (c e : C) : Decidable (adjR c e) := inferInstanceAs (Decidable (apartI e c = 1))
theorem apart_comm (a b : C) : apartI a b = apartI b a := by simp only [apartI]; omega
theorem adjR_symm : ∀ a b, adjR a b → adjR b a := fun a b h => by unfold adjR at *; rw [apart_comm]; exact h
/-- Cells of a row to which neighbours in it lead from some of its cells. -/
noncomputable def rchL (L B : List C) : List C := by
  classical exact L.filter fun c => decide (Rch adjR (fun x => x ∈ L) (fun x => x ∈ B) c)
open Classical in
theorem rchL_mem {L B : List C} {c : C} : c ∈ rchL L B ↔ Rch adjR (fun x => x ∈ L) (fun x => x ∈ B) c := by
  unfold rchL
  rw [List.mem_filter, decide_eq_true_eq]
  exact ⟨fun h => h.2, fun h => ⟨h.mem, h⟩⟩
theorem rchL_valid {X Y Z : Int} {L : List C} (h : Valid X Y Z L) (B : List C) : Valid X Y Z (rchL L B) := h.filter _

/-! ### The program's growth, round after round -/
def nxtN (X Y Z : Int) (s t : BitVec 64) (i : Nat) : BitVec 64 := (List.range i).foldl (fun o j => if s.getLsbD j then o ||| (nearS X Y Z (cellAt Y Z j) &&& t) else o) s
theorem nxtN_zero (X Y Z : Int) (s t : BitVec 64) : nxtN X Y Z s t 0 = s := rfl
theorem nxtN_T {X Y Z : Int} {s t : BitVec 64} {i : Nat} (h : s.getLsbD i = true) : nxtN X Y Z s t (i + 1) = nxtN X Y Z s t i ||| (nearS X Y Z (cellAt Y Z i) &&& t) := by
  unfold nxtN; rw [List.range_succ, List.foldl_append]; simp [h]
theorem nxtN_F {X Y Z : Int} {s t : BitVec 64} {i : Nat} (h : s.getLsbD i = false) : nxtN X Y Z s t (i + 1) = nxtN X Y Z s t i := by
  unfold nxtN; rw [List.range_succ, List.foldl_append]; simp [h]
theorem nxt_get {X Y Z : Int} {s t : BitVec 64} {j : Nat} (hj : j < 64) : ∀ i, (nxtN X Y Z s t i).getLsbD j = true ↔ s.getLsbD j = true ∨ ∃ k, k < i ∧ s.getLsbD k = true ∧ (nearS X Y Z (cellAt Y Z k)).getLsbD j = true ∧ t.getLsbD j = true
  | 0 => by simp [nxtN_zero]
  | i + 1 => by
    have ih := nxt_get (X := X) (Y := Y) (Z := Z) (s := s) (t := t) hj i
    cases h : s.getLsbD i with
    | true =>
      rw [nxtN_T h, BitVec.getLsbD_or, Bool.or_eq_true, ih, BitVec.getLsbD_and, Bool.and_eq_true]
      constructor
      · rintro ((g | ⟨k, h1, h2⟩) | g)
        · exact .inl g
        · exact .inr ⟨k, by omega, h2⟩
        · exact .inr ⟨i, by omega, h, g⟩
      · rintro (g | ⟨k, h1, h2, h3⟩)
        · exact .inl (.inl g)
        · rcases Nat.lt_or_ge k i with g | g
          · exact .inl (.inr ⟨k, g, h2, h3⟩)
          · obtain rfl : k = i := by omega
            exact .inr h3
    | false =>
      rw [nxtN_F h, ih]
      constructor
      · rintro (g | ⟨k, h1, h2⟩)
        · exact .inl g
        · exact .inr ⟨k, by omega, h2⟩
      · rintro (g | ⟨k, h1, h2, h3⟩)
        · exact .inl g
        · rcases Nat.lt_or_ge k i with g | g
          · exact .inr ⟨k, g, h2, h3⟩
          · obtain rfl : k = i := by omega
            rw [h] at h2; simp at h2
/-- A set in the making: it has the first cells, and only cells to which neighbours lead. -/
structure Grw (X Y Z : Int) (B L : List C) (s : BitVec 64) (M : List C) : Prop where
  rep : Rep X Y Z s M
  sub : ∀ c ∈ B, c ∈ M
  rch : ∀ c ∈ M, Rch adjR (fun x => x ∈ L) (fun x => x ∈ B) c
theorem Grw.start {X Y Z : Int} {B L : List C} {s : BitVec 64} (h : Rep X Y Z s B) (hB : ∀ c ∈ B, c ∈ L) : Grw X Y Z B L s B := ⟨h, fun c hc => hc, fun c hc => .base (hB c hc) hc⟩
theorem Grw.next {X Y Z : Int} {B L M : List C} {s t : BitVec 64} (h : Grw X Y Z B L s M) (ht : Rep X Y Z t L) : ∃ M', Grw X Y Z B L (nxtN X Y Z s t (vol X Y Z)) M' ∧ (∀ c ∈ M, c ∈ M') ∧ (∀ c ∈ M, ∀ e ∈ L, adjR c e → e ∈ M') := by
  have hX := h.rep.valid.box
  have hv := vol_le hX
  have hr : Rep X Y Z (nxtN X Y Z s t (vol X Y Z)) (cellsOf X Y Z (nxtN X Y Z s t (vol X Y Z))) := rep_cells hX fun j hj g => by
    rcases (nxt_get hj _).mp g with g | ⟨k, _, _, _, g⟩
    · exact h.rep.top j hj g
    · exact ht.top j hj g
  have mem : ∀ c, In X Y Z c → (c ∈ cellsOf X Y Z (nxtN X Y Z s t (vol X Y Z)) ↔ c ∈ M ∨ ∃ d ∈ M, adjR d c ∧ c ∈ L) := fun c hc => by
    rw [← hr.mem c hc, nxt_get (cellIx_lt64 hX hc), h.rep.mem c hc]
    constructor
    · rintro (g | ⟨k, h1, h2, h3, h4⟩)
      · exact .inl g
      · have hk := cellAt_in hX h1
        have e := (h.rep.mem _ hk)
        rw [ix_cellAt hX h1] at e
        have h5 := ((rep_near hX (cellAt Y Z k)).mem c hc).mp h3
        exact .inr ⟨_, e.mp h2, of_decide_eq_true (List.mem_filter.mp h5).2, (ht.mem c hc).mp h4⟩
    · rintro (g | ⟨d, h1, h2, h3⟩)
      · exact .inl g
      · have hd := h.rep.valid.inn d h1
        refine .inr ⟨cellIx Y Z d, cellIx_lt hX hd, (h.rep.mem d hd).mpr h1, ?_, (ht.mem c hc).mpr h3⟩
        rw [cellAt_ix hX hd]
        exact ((rep_near hX d).mem c hc).mpr (List.mem_filter.mpr ⟨(allC_mem hX).mpr hc, decide_eq_true h2⟩)
  refine ⟨_, ⟨hr, fun c hc => (mem c (h.rep.valid.inn c (h.sub c hc))).mpr (.inl (h.sub c hc)), fun c hc => ?_⟩, fun c hc => (mem c (h.rep.valid.inn c hc)).mpr (.inl hc), fun c hc e he ha => (mem e (ht.valid.inn e he)).mpr (.inr ⟨c, hc, ha, he⟩)⟩
  rcases (mem c (hr.valid.inn c hc)).mp hc with g | ⟨d, h1, h2, h3⟩
  · exact h.rch c g
  · exact .step (h.rch d h1) h2 h3
theorem Grw.done {X Y Z : Int} {B L M : List C} {s t : BitVec 64} (h : Grw X Y Z B L s M) (ht : Rep X Y Z t L) (e : nxtN X Y Z s t (vol X Y Z) = s) : Rep X Y Z s (rchL L B) := by
  obtain ⟨M', h1, h2, h3⟩ := h.next ht
  rw [e] at h1
  have e2 : M' = M := by rw [← h1.rep.cells, h.rep.cells]
  subst e2
  refine h.rep.congr (rchL_valid ht.valid B) fun c hc => ?_
  rw [rchL_mem]
  refine ⟨h.rch c, fun g => ?_⟩
  induction g with
  | base _ h5 => exact h.sub _ h5
  | step g1 g2 g3 ih => exact h3 _ (ih (ht.valid.inn _ g1.mem)) _ g3 g2
theorem Grw.grow {X Y Z : Int} {B L M : List C} {s t : BitVec 64} (h : Grw X Y Z B L s M) (ht : Rep X Y Z t L) (e : ¬ nxtN X Y Z s t (vol X Y Z) = s) : ∃ M', Grw X Y Z B L (nxtN X Y Z s t (vol X Y Z)) M' ∧ M.length < M'.length := by
  obtain ⟨M', h1, h2, _⟩ := h.next ht
  refine ⟨M', h1, ?_⟩
  have hle := h.rep.valid.len_sub h1.rep.valid h2
  rcases Nat.lt_or_ge M.length M'.length with g | g
  · exact g
  · exact absurd (by
      have := h.rep.valid.eq_len h1.rep.valid h2 g
      subst this
      exact h1.rep.eq h.rep) e

/-! ### The reference's search, cell after cell -/
/-- `q`: the cells found, in the order in which they were found; the first `n` of them have been asked, the neighbours `k` of the next one, too; `M`: what is left; `P`: the first `n` in order. -/
structure Srch (X Y Z : Int) (L : List C) (c0 : C) (q M P : List C) (n : Nat) : Prop where
  vM : Valid X Y Z M
  vP : Valid X Y Z P
  qL : ∀ c ∈ q, c ∈ L
  left : ∀ c, c ∈ M ↔ c ∈ L ∧ c ∉ q
  part : ∀ c, c ∈ P ↔ ∃ j, j < n ∧ j < q.length ∧ at3 q j = c
  rch : ∀ c ∈ q, Rch adjR (fun x => x ∈ L) (fun x => x = c0) c
  cls : ∀ j, j < n → j < q.length → ∀ e ∈ L, adjR (at3 q j) e → e ∈ q
  seed : c0 ∈ q
  nodup : q.Nodup
theorem at3_get {cs : List C} {i : Nat} (h : i < cs.length) : at3 cs i = cs[i] := by simp [at3, List.getD, h]
theorem nodup_len : ∀ {a b : List C}, a.Nodup → (∀ x ∈ a, x ∈ b) → a.length ≤ b.length
  | [], _, _, _ => by simp
  | x :: a, b, ha, h => by
    obtain ⟨h1, h2⟩ := List.nodup_cons.mp ha
    have hx := h x (by simp)
    have h3 := nodup_len (b := b.erase x) h2 (fun y hy => (List.mem_erase_of_ne (fun e => h1 (by rw [← e]; exact hy))).mpr (h y (by simp [hy])))
    rw [List.length_erase_of_mem hx] at h3
    have h4 := List.length_pos_of_mem hx
    simp only [List.length_cons]; omega
theorem at3_app_l {a b : List C} {j : Nat} (h : j < a.length) : at3 (a ++ b) j = at3 a j := by simp [at3, List.getD, List.getElem?_append_left h]
theorem Srch.start {X Y Z : Int} {L : List C} (h : Valid X Y Z L) (hne : 0 < L.length) : Srch X Y Z L (at3 L 0) [at3 L 0] (without L (at3 L 0)) [] 0 := by
  have hm := at3_mem hne
  refine ⟨without_valid h _, valid_nil h.box, fun c hc => by simp at hc; rw [hc]; exact hm, fun c => ?_, fun c => by simp, fun c hc => by simp at hc; rw [hc]; exact .base hm rfl, fun j hj => absurd hj (by omega), by simp, by simp⟩
  simp only [without, List.mem_filter, List.mem_singleton, Bool.not_eq_true', decide_eq_false_iff_not]
/-- The cell `n` is put to the part. -/
theorem Srch.put {X Y Z : Int} {L : List C} {c0 : C} {q M P : List C} {n : Nat} (h : Srch X Y Z L c0 q M P n) (hL : Valid X Y Z L) (hn : n < q.length) :
    Valid X Y Z (withC P (at3 q n)) ∧ ∀ c, c ∈ withC P (at3 q n) ↔ ∃ j, j < n + 1 ∧ j < q.length ∧ at3 q j = c := by
  obtain ⟨h1, h2⟩ := withC_valid h.vP (hL.inn _ (h.qL _ (at3_mem hn)))
  refine ⟨h1, fun c => ?_⟩
  rw [h2, h.part]
  constructor
  · rintro (⟨j, g1, g2, g3⟩ | g)
    · exact ⟨j, by omega, g2, g3⟩
    · exact ⟨n, by omega, hn, g.symm⟩
  · rintro ⟨j, g1, g2, g3⟩
    rcases Nat.lt_or_ge j n with g | g
    · exact .inl ⟨j, g, g2, g3⟩
    · obtain rfl : j = n := by omega
      exact .inr g3.symm
/-- The neighbours of the cell `n` that are left, one after the other. -/
structure Srch2 (X Y Z : Int) (L : List C) (c0 : C) (q M P : List C) (n : Nat) (N : List C) (i : Nat) (q' M' : List C) : Prop where
  vM : Valid X Y Z M'
  eq : q' = q ++ N.take i
  left : ∀ c, c ∈ M' ↔ c ∈ L ∧ c ∉ q'
  nodup : q'.Nodup
theorem Srch2.start {X Y Z : Int} {L : List C} {c0 : C} {q M P : List C} {n : Nat} (h : Srch X Y Z L c0 q M P n) (N : List C) : Srch2 X Y Z L c0 q M P n N 0 q M := ⟨h.vM, by simp, h.left, h.nodup⟩
theorem Srch2.next {X Y Z : Int} {L : List C} {c0 : C} {q M P : List C} {n : Nat} {i : Nat} {q' M' : List C} (h : Srch X Y Z L c0 q M P n) (k : Srch2 X Y Z L c0 q M P n (M.filter (adjF (at3 q n))) i q' M') (hi : i < (M.filter (adjF (at3 q n))).length) :
    Srch2 X Y Z L c0 q M P n (M.filter (adjF (at3 q n))) (i + 1) (q' ++ [at3 (M.filter (adjF (at3 q n))) i]) (without M' (at3 (M.filter (adjF (at3 q n))) i)) := by
  have hm := at3_mem hi
  have hM := (List.mem_filter.mp hm).1
  have hN : (M.filter (adjF (at3 q n))).Nodup := ((h.vM.filter _).rise.imp (fun {a b} hab => (by intro e; subst e; exact Nat.lt_irrefl _ hab) : ∀ {a b : Nat}, a < b → a ≠ b) |> fun x => by
    have := List.pairwise_map.mp x
    exact this.imp fun {a b} hab e => hab (by rw [e]))
  have hnq : at3 (M.filter (adjF (at3 q n))) i ∉ q' := by
    rw [k.eq]
    intro g
    rcases List.mem_append.mp g with g | g
    · exact ((h.left _).mp hM).2 g
    · obtain ⟨j, hj, e⟩ := List.getElem_of_mem g
      rw [List.getElem_take] at e
      have hj' : j < i := by simp at hj; omega
      rw [at3_get hi] at e
      have hjl : j < (M.filter (adjF (at3 q n))).length := by omega
      exact List.pairwise_iff_getElem.mp hN j i hjl hi hj' e
  refine ⟨without_valid k.vM _, by rw [k.eq, take_succ3 hi, List.append_assoc], fun c => ?_, ?_⟩
  · simp only [without, List.mem_filter, k.left, List.mem_append, List.mem_singleton, Bool.not_eq_true', decide_eq_false_iff_not, not_or, and_assoc]
  · rw [List.nodup_append]
    refine ⟨k.nodup, by simp, fun a ha b hb => ?_⟩
    simp at hb; subst hb
    intro e; subst e; exact hnq ha
theorem Srch2.done {X Y Z : Int} {L : List C} {c0 : C} {q M P : List C} {n : Nat} {i : Nat} {q' M' : List C} (h : Srch X Y Z L c0 q M P n) (hL : Valid X Y Z L) (hn : n < q.length) (k : Srch2 X Y Z L c0 q M P n (M.filter (adjF (at3 q n))) i q' M') (hi : i = (M.filter (adjF (at3 q n))).length) :
    Srch X Y Z L c0 q' M' (withC P (at3 q n)) (n + 1) := by
  subst hi
  have eq := k.eq
  rw [List.take_length] at eq
  obtain ⟨p1, p2⟩ := h.put hL hn
  have hat : ∀ j, j < q.length → at3 q' j = at3 q j := fun j hj => by rw [eq]; exact at3_app_l hj
  have hlen : q.length ≤ q'.length := by rw [eq]; simp
  have hN : ∀ c ∈ M.filter (adjF (at3 q n)), c ∈ L ∧ adjR (at3 q n) c := fun c hc => ⟨((h.left c).mp (List.mem_filter.mp hc).1).1, of_decide_eq_true (List.mem_filter.mp hc).2⟩
  refine ⟨k.vM, p1, fun c hc => ?_, k.left, fun c => ?_, fun c hc => ?_, fun j hj hjl e he ha => ?_, by rw [eq]; exact List.mem_append_left _ h.seed, k.nodup⟩
  · rw [eq] at hc
    rcases List.mem_append.mp hc with g | g
    · exact h.qL c g
    · exact (hN c g).1
  · rw [p2]
    constructor
    · rintro ⟨j, g1, g2, g3⟩; exact ⟨j, g1, by omega, by rw [hat j g2]; exact g3⟩
    · rintro ⟨j, g1, g2, g3⟩; exact ⟨j, g1, by omega, by rw [← hat j (by omega)]; exact g3⟩
  · rw [eq] at hc
    rcases List.mem_append.mp hc with g | g
    · exact h.rch c g
    · exact .step (h.rch _ (at3_mem hn)) (hN c g).2 (hN c g).1
  · rw [hat j (by omega)] at ha
    rw [eq]
    rcases Nat.lt_or_ge j n with g | g
    · exact List.mem_append_left _ (h.cls j g (by omega) e he ha)
    · obtain rfl : j = n := by omega
      by_cases hq : e ∈ q
      · exact List.mem_append_left _ hq
      · exact List.mem_append_right _ (List.mem_filter.mpr ⟨(h.left e).mpr ⟨he, hq⟩, decide_eq_true ha⟩)
theorem Srch.all {X Y Z : Int} {L : List C} {c0 : C} {q M P : List C} {n : Nat} (h : Srch X Y Z L c0 q M P n) (hL : Valid X Y Z L) (hn : n = q.length) : P = rchL L [c0] ∧ M = L.filter fun c => !decide (c ∈ rchL L [c0]) := by
  subst hn
  have key : ∀ c, c ∈ q ↔ c ∈ rchL L [c0] := fun c => by
    rw [rchL_mem]
    constructor
    · intro g; exact (h.rch c g).mono fun x hx => by rw [hx]; simp
    · intro g
      induction g with
      | base _ h5 => simp at h5; rw [h5]; exact h.seed
      | step g1 g2 g3 ih =>
        obtain ⟨j, hj, e⟩ := mem_at3 ih
        exact h.cls j hj hj _ g3 (by rw [e]; exact g2)
  constructor
  · refine h.vP.ext (rchL_valid hL _) fun c hc => ?_
    rw [h.part, ← key]
    constructor
    · rintro ⟨j, _, g2, g3⟩; rw [← g3]; exact at3_mem g2
    · intro g; obtain ⟨j, hj, e⟩ := mem_at3 g; exact ⟨j, hj, hj, e⟩
  · refine h.vM.ext (hL.filter _) fun c hc => ?_
    rw [h.left, List.mem_filter]
    simp [key]
theorem Srch.q_len {X Y Z : Int} {L : List C} {c0 : C} {q M P : List C} {n : Nat} (h : Srch X Y Z L c0 q M P n) (hL : Valid X Y Z L) : q.length ≤ L.length := by
  exact nodup_len h.nodup h.qL
theorem Srch2.q_len {X Y Z : Int} {L : List C} {c0 : C} {q M P : List C} {n : Nat} {N : List C} {i : Nat} {q' M' : List C} (h : Srch X Y Z L c0 q M P n) (k : Srch2 X Y Z L c0 q M P n N i q' M') (hN : ∀ c ∈ N, c ∈ L) : q'.length ≤ L.length := by
  refine nodup_len k.nodup fun c hc => ?_
  rw [k.eq] at hc
  rcases List.mem_append.mp hc with g | g
  · exact h.qL c g
  · exact hN c (List.mem_of_mem_take g)
end Go.Sep
