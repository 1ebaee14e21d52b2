/- Regions whose order the machine draws: the run of the machine. -/
import Derived.Test.YtkfhblkjllbejaaDraw2
namespace Go.Sep
open Go
set_option linter.unusedVariables false
set_option linter.unusedSimpArgs false

variable {P : Program}

/-! ### An operation looks at its operands alone -/

theorem evs_congr {ts ts' : Temps} : ∀ {xs : List Operand}, (∀ x ∈ xs, ev ts x = ev ts' x) → evs ts xs = evs ts' xs
  | [], _ => rfl
  | x :: xs, h => by
    simp only [evs]
    rw [h x (by simp), evs_congr fun y hy => h y (by simp [hy])]

theorem evParts_congr {ts ts' : Temps} : ∀ {xs : List (Nat × Operand)}, (∀ x ∈ xs.map (·.2), ev ts x = ev ts' x) → evParts ts xs = evParts ts' xs
  | [], _ => rfl
  | (i, x) :: xs, h => by
    simp only [evParts]
    rw [h x (by simp), evParts_congr fun y hy => h y (by simp at hy ⊢; exact .inr hy)]

theorem evO_congr {ts ts' : Temps} {x : Option Operand} (h : ∀ y, x = some y → ev ts y = ev ts' y) : evO ts x = evO ts' x := by
  cases x with
  | none => rfl
  | some y => simp only [evO]; rw [h y rfl]

theorem builtin_congr {ts ts' : Temps} {b : Builtin} {tys : Array TypeId} {xs : List Operand} {H : Heap} {n : Nat} (h : ∀ x ∈ xs, ev ts x = ev ts' x) : cBuiltin P b tys xs ts H n = cBuiltin P b tys xs ts' H n := by
  unfold cBuiltin
  split
  · congr 1
    split
    · simp only [ev1]; rw [h _ (by simp)]
    · rfl
  · split
    · rw [h _ (by simp), h _ (by simp)]
    · rfl
  · rw [evs_congr h]
  · rw [evs_congr h]
  · split
    · rw [h _ (by simp)]
    · rfl
  · rfl

theorem cop_congr {o : Op} {ts ts' : Temps} {H : Heap} {n : Nat} (h : ∀ x ∈ o.operands, ev ts x = ev ts' x) : cop P o ts H n = cop P o ts' H n := by
  cases o <;> simp only [Op.operands] at h <;> simp only [cop, ev1, ev2] <;> try rfl
  case build t ps => rw [evParts_congr (xs := ps.toList) fun x hx => h x (by simpa using hx)]
  case buildSlice t len ps => rw [evParts_congr (xs := ps.toList) fun x hx => h x (by simpa using hx)]
  case makeFunc fn fs cs => rw [evs_congr (xs := fs.toList) fun x hx => h x (by simp at hx ⊢; exact .inl hx), evs_congr (xs := cs.toList) fun x hx => h x (by simp at hx ⊢; exact .inr hx)]
  case slice t x lo hi mx =>
    rw [evO_congr (x := lo) fun y hy => h y (by subst hy; simp), evO_congr (x := hi) fun y hy => h y (by subst hy; simp), evO_congr (x := mx) fun y hy => h y (by subst hy; simp), h x (by simp)]
  case call c =>
    split
    · exact builtin_congr fun x hx => h x (by simp [Call.operands] at hx ⊢; exact .inr hx)
    · rfl
  case mapUpdate t m k x => unfold cMapW; rw [h m (by simp), h k (by simp), h x (by simp)]
  case insert t m k x => unfold cMapW; rw [h m (by simp), h k (by simp), h x (by simp)]
  case makeMap t r => cases r <;> rfl
  case pick c x y => rw [h c (by simp), h x (by simp), h y (by simp)]
  all_goals first
    | (rw [h _ (by simp)]; done)
    | (rw [h _ (by simp), h _ (by simp)]; done)
    | (rename_i x y; rw [h x (by simp), h y (by simp)]; done)
    | (rename_i x y _; rw [h x (by simp), h y (by simp)]; done)

theorem calleeOf_congr {o : Op} {ts ts' : Temps} (h : ∀ x ∈ o.operands, ev ts x = ev ts' x) : calleeOf ts o = calleeOf ts' o := by
  unfold calleeOf
  split
  · rename_i c
    split
    · rename_i f hf
      rw [h f (by simp [Op.operands, Call.operands, hf]), evs_congr fun x hx => h x (by simp [Op.operands, Call.operands] at hx ⊢; exact .inr hx)]
    · rfl
  · rfl

theorem stepOp_congr {o : Op} {ts ts' : Temps} {H : Heap} {n : Nat} {K : Value → Heap → Nat → Prop} (h : ∀ x ∈ o.operands, ev ts x = ev ts' x) (hh : stepOp P o ⟨ts, H, n⟩ K) : stepOp P o ⟨ts', H, n⟩ K := by
  unfold stepOp at hh ⊢
  simp only [] at hh ⊢
  rw [← calleeOf_congr h, ← cop_congr h]
  exact hh

/-- Some temporaries alone. -/
def only (L : List Tmp) (ts : Temps) : Temps := L.filterMap fun t => (get ts t).map fun v => (t, v)

theorem get_only {ts : Temps} : ∀ {L : List Tmp} {t : Tmp}, get (only L ts) t = if t ∈ L then get ts t else none
  | [], t => by simp [only, get]
  | x :: L, t => by
    have ih := get_only (ts := ts) (L := L) (t := t)
    simp only [only, List.filterMap_cons] at ih ⊢
    cases hx : get ts x with
    | none =>
      simp only [Option.map_none]
      rw [ih]
      by_cases e : t = x
      · subst e; simp [hx]
      · simp [e]
    | some v =>
      simp only [Option.map_some, get]
      by_cases e : x = t
      · subst e; simp [hx]
      · rw [if_neg e, ih]
        simp [show t ≠ x from fun h => e h.symm]

theorem wantC_only {ops : Array Oper} {o : Oper} {ts : Temps} : wantC ops o (only (o.looksAt ops) ts) = wantC ops o ts := by
  unfold wantC
  split
  · rfl
  · rename_i j want hg
    split
    · rename_i oj hj
      split
      · rename_i t ht
        rw [get_only, if_pos]
        simp [Oper.looksAt, hg, hj, ht]
      · rfl
    · rfl

theorem ev_only {ops : Array Oper} {o : Oper} {ts : Temps} {x : Operand} (h : x ∈ o.op.operands) : ev ts x = ev (only (o.looksAt ops) ts) x := by
  cases x with
  | tmp t =>
    simp only [ev]
    rw [get_only, if_pos]
    exact List.mem_append_left _ (List.mem_filterMap.2 ⟨.tmp t, by simpa using h, rfl⟩)
  | _ => rfl

/-! ### Names below a number -/

theorem ltV_mono {n m : Nat} (h : n ≤ m) {v : Value} (hv : ltV n v = true) : ltV m v = true := by
  unfold ltV at hv ⊢
  split at hv
  · exact all_mono (fun v => ltC_mono h) hv
  · exact ltC_mono h hv
theorem ltT_mono {n m : Nat} (h : n ≤ m) {v : Value} (hv : ltT n v = true) : ltT m v = true := by
  unfold ltT at hv ⊢
  split at hv
  · exact all_mono (fun v => ltV_mono h) hv
  · exact ltV_mono h hv

theorem renA_id (v : Value) : renA id v = v := by
  cases v with
  | pointer a => cases a <;> rfl
  | slice a _ _ => cases a <;> rfl
  | map r => cases r <;> rfl
  | _ => rfl
theorem renC_id (v : Value) : renC id v = v := by
  unfold renC
  split
  · congr 1; simp [show renA id = id from funext renA_id]
  · exact renA_id _
theorem renV_id (v : Value) : renV id v = v := by
  unfold renV
  split
  · congr 1; simp [show renC id = id from funext renC_id]
  · exact renC_id _
theorem renT_id (v : Value) : renT id v = v := by
  unfold renT
  split
  · congr 1; simp [show renV id = id from funext renV_id]
  · exact renV_id _

theorem VC.cut {β β' : Names} {n : Nat} (h : ∀ x, x < n → β' x = β x) {c v : Value} (hl : ltC n c = true) (hv : VC β c v) : VC β' c v :=
  VC.ren (ρ := id) (β := β) h hl (by rw [renC_id]; exact hv)
theorem VT.cut {β β' : Names} {n : Nat} (h : ∀ x, x < n → β' x = β x) {c v : Value} (hl : ltT n c = true) (hv : VT β c v) : VT β' c v :=
  VT.ren (ρ := id) (β := β) h hl (by rw [renT_id]; exact hv)

theorem VA.lt {β : Names} {n : Nat} (hf : ∀ x, n ≤ x → β x = none) {c v : Value} (hv : VA β c v) : ltV n c = true := by
  by_cases hc : ∃ cs, c = .agg cs
  · obtain ⟨cs, rfl⟩ := hc
    obtain ⟨cs', _, h⟩ := hv
    exact All2.lt (R := VC β) (fun _ _ hh => VC.lt hf hh) h
  · have e1 : ltV n c = ltC n c := by cases c <;> first | rfl | exact absurd ⟨_, rfl⟩ hc
    have e2 : VA β c v = VC β c v := by cases c <;> first | rfl | exact absurd ⟨_, rfl⟩ hc
    rw [e1]; exact VC.lt hf (e2 ▸ hv)
theorem VT.lt {β : Names} {n : Nat} (hf : ∀ x, n ≤ x → β x = none) {c v : Value} (hv : VT β c v) : ltT n c = true := by
  by_cases hc : ∃ cs, c = .tuple cs
  · obtain ⟨cs, rfl⟩ := hc
    obtain ⟨cs', _, h⟩ := hv
    exact All2.lt (R := VA β) (fun _ _ hh => VA.lt hf hh) h
  · have e1 : ltT n c = ltV n c := by cases c <;> first | rfl | exact absurd ⟨_, rfl⟩ hc
    have e2 : VT β c v = VA β c v := by cases c <;> first | rfl | exact absurd ⟨_, rfl⟩ hc
    rw [e1]; exact VA.lt hf (e2 ▸ hv)

def BlkLt (n : Nat) : Blk → Prop
  | .cells _ cs => ∀ (i : Nat) (v : Value), cs[i]? = some v → ltC n v = true
  | .map es => ∀ p ∈ es, ltC n p.1 = true ∧ ltC n p.2 = true

theorem BlkLt.mono {n m : Nat} (h : n ≤ m) {b : Blk} (hb : BlkLt n b) : BlkLt m b := by
  cases b with
  | cells _ cs => exact fun i v hi => ltC_mono h (hb i v hi)
  | map es => exact fun p hp => ⟨ltC_mono h (hb p hp).1, ltC_mono h (hb p hp).2⟩

theorem BlkOk.cut {β β' : Names} {n : Nat} (h : ∀ x, x < n → β' x = β x) {w : World} {l : Loc} {b : Blk} (hl : BlkLt n b) (hb : BlkOk β w l b) : BlkOk β' w l b := by
  cases b with
  | cells ro cs =>
    obtain ⟨c, el, fz, h1, h2, h3, h4, h5⟩ := hb
    refine ⟨c, el, fz, h1, h2, h3, fun i v hi => ?_, h5⟩
    obtain ⟨u, hu, hv⟩ := h4 i v hi
    exact ⟨u, hu, hv.cut h (hl i v hi)⟩
  | map es =>
    obtain ⟨arr, clk, h1, h2⟩ := hb
    refine ⟨arr, clk, h1, ?_⟩
    clear h1
    generalize arr.toList = m at h2 ⊢
    induction es generalizing m with
    | nil => cases m with
      | nil => trivial
      | cons _ _ => exact h2.elim
    | cons p es ih => cases m with
      | nil => exact h2.elim
      | cons q m => exact ⟨⟨h2.1.1.cut h (hl p (by simp)).1, h2.1.2.cut h (hl p (by simp)).2⟩, ih (fun p hp => hl p (by simp [hp])) m h2.2⟩

theorem BlkOk.blkLt {β : Names} {n : Nat} (hf : ∀ x, n ≤ x → β x = none) {w : World} {l : Loc} {b : Blk} (hb : BlkOk β w l b) : BlkLt n b := by
  cases b with
  | cells ro cs =>
    obtain ⟨c, el, fz, h1, h2, h3, h4, h5⟩ := hb
    intro i v hi
    obtain ⟨u, hu, hv⟩ := h4 i v hi
    exact hv.lt hf
  | map es =>
    obtain ⟨arr, clk, h1, h2⟩ := hb
    generalize arr.toList = m at h2
    induction es generalizing m with
    | nil => intro p hp; simp at hp
    | cons q es ih => cases m with
      | nil => exact h2.elim
      | cons r m =>
        intro p hp
        simp at hp
        rcases hp with rfl | hp
        · exact ⟨h2.1.1.lt hf, h2.1.2.lt hf⟩
        · exact ih m h2.2 p hp

end Go.Sep
