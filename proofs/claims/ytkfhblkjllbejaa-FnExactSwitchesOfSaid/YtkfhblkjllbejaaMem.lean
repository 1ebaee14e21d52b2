/- What becomes of the relation between the machine's world and the canonical heap when a block is made, written, or appended to. -/
import Derived.Test.YtkfhblkjllbejaaCore
import Derived.Laws.CopyRow
import Derived.Laws.Rows
namespace Go.Sep
open Go
set_option linter.unusedVariables false

def Names.set (β : Names) (x : Nat) (l : Loc) : Names := fun y => if y = x then some l else β y

theorem Names.le_set {β : Names} {n : Nat} {l : Loc} (h : β n = none) : β.le (β.set n l) := fun y m hy => by
  unfold Names.set
  by_cases e : y = n
  · subst e; rw [h] at hy; simp at hy
  · rw [if_neg e]; exact hy

theorem Names.set_same (β : Names) (x : Nat) (l : Loc) : β.set x l x = some l := by simp [Names.set]
theorem Names.set_ne (β : Names) {x y : Nat} (l : Loc) (h : y ≠ x) : β.set x l y = β y := by simp [Names.set, h]

theorem Heap.set_same (H : Heap) (x : Nat) (b : Blk) : H.set x b x = some b := by simp [Heap.set]
theorem Heap.set_ne (H : Heap) {x y : Nat} (b : Blk) (h : y ≠ x) : H.set x b y = H y := by simp [Heap.set, h]

theorem heap_alloc_lt {w : World} {o : Obj} {k : Nat} (h : k < w.heap.size) : (w.alloc o).heap[k]? = w.heap[k]? := by
  show (w.heap.push o)[k]? = _
  rw [Array.getElem?_push, if_neg (by omega)]
theorem heap_alloc_new {w : World} {o : Obj} : (w.alloc o).heap[w.heap.size]? = some o := by
  show (w.heap.push o)[w.heap.size]? = _
  simp

/-- A block that is new in the machine gets the first new name. -/
theorem new_block {β : Names} {H : Heap} {w : World} {n : Nat} {o : Obj} {b : Blk} {sz : Nat} (hs : Sat β H w) (hf : ∀ x, n ≤ x → β x = none)
    (hb : BlkOk β (w.alloc o) ⟨w.heap.size, 0, sz⟩ b) :
    Sat (β.set n ⟨w.heap.size, 0, sz⟩) (H.set n b) (w.alloc o) ∧ (∀ x, n + 1 ≤ x → β.set n ⟨w.heap.size, 0, sz⟩ x = none) ∧
      Grow n β H w (β.set n ⟨w.heap.size, 0, sz⟩) (H.set n b) (w.alloc o) := by
  have hn : β n = none := hf n (Nat.le_refl _)
  have hle : β.le (β.set n ⟨w.heap.size, 0, sz⟩) := Names.le_set hn
  have hHn : H n = none := by
    cases hH : H n with
    | none => rfl
    | some b => obtain ⟨l, hl, _⟩ := hs.ok n b hH; rw [hn] at hl; simp at hl
  refine ⟨⟨?_, ?_⟩, ?_, ?_⟩
  · intro x b' hx
    by_cases e : x = n
    · subst e
      rw [Heap.set_same] at hx
      obtain rfl := Option.some.inj hx
      exact ⟨_, Names.set_same _ _ _, hb.names hle⟩
    · rw [Heap.set_ne _ _ e] at hx
      obtain ⟨l, hl, hk⟩ := hs.ok x b' hx
      exact ⟨l, hle _ _ hl, (hk.world (heap_alloc_lt hk.lt)).names hle⟩
  · intro x y b1 b2 l m hxy hx hy hrw hl hm
    by_cases e : x = n
    · subst e
      have hy' : y ≠ x := fun e => hxy e.symm
      rw [Names.set_same] at hl
      rw [Names.set_ne _ _ hy'] at hm
      rw [Heap.set_ne _ _ hy'] at hy
      obtain ⟨m', hm', hk⟩ := hs.ok y b2 hy
      rw [hm] at hm'
      obtain rfl := Option.some.inj hm'
      obtain rfl := Option.some.inj hl
      have := hk.lt
      simp
      omega
    · by_cases e2 : y = n
      · subst e2
        rw [Names.set_same] at hm
        rw [Names.set_ne _ _ e] at hl
        rw [Heap.set_ne _ _ e] at hx
        obtain ⟨l', hl', hk⟩ := hs.ok x b1 hx
        rw [hl] at hl'
        obtain rfl := Option.some.inj hl'
        obtain rfl := Option.some.inj hm
        have := hk.lt
        simp
        omega
      · rw [Names.set_ne _ _ e] at hl
        rw [Names.set_ne _ _ e2] at hm
        rw [Heap.set_ne _ _ e] at hx
        rw [Heap.set_ne _ _ e2] at hy
        exact hs.sep x y b1 b2 l m hxy hx hy hrw hl hm
  · intro x hx
    rw [Names.set_ne _ _ (by omega)]
    exact hf x (by omega)
  · refine ⟨fun x hx => Names.set_ne _ _ (by omega), rfl, rfl, rfl, by simp, fun k hk _ => heap_alloc_lt hk, ?_, ?_⟩
    · rintro k ⟨x, b', l, hx, hrw, hl, rfl⟩
      by_cases e : x = n
      · subst e
        rw [Names.set_same] at hl
        obtain rfl := Option.some.inj hl
        exact .inr (Nat.le_refl _)
      · rw [Names.set_ne _ _ e] at hl
        rw [Heap.set_ne _ _ e] at hx
        exact .inl (Has.own hf ⟨x, b', l, hx, hrw, hl, rfl⟩)
    · intro x hx h2
      rwa [Heap.set_ne _ _ (by omega)] at h2

theorem setRow_other {w : World} {g k : Nat} {cs : Array Value} (h : k ≠ g) : (w.setRow g cs).heap[k]? = w.heap[k]? := by
  unfold World.setRow
  simp only [Array.getElem?_modify]
  rw [if_neg (fun e => h e.symm)]
theorem setRow_size (w : World) (g : Nat) (cs : Array Value) : (w.setRow g cs).heap.size = w.heap.size := by simp [World.setRow]

/-- Cells of an owned block are written; the block keeps its name. -/
theorem write_block {β : Names} {H : Heap} {w : World} {x : Nat} {cs cs' : List Value} {l : Loc} {c : Array Value} (hs : Sat β H w)
    (hx : H x = some (.cells false cs)) (hl : β x = some l) (hsz : c.size = l.size) (hlen : l.base + cs'.length ≤ l.size)
    (hc : ∀ i v, cs'[i]? = some v → ∃ u, c[l.base + i]? = some u ∧ VC β v u) (n : Nat) (hf : ∀ x, n ≤ x → β x = none) :
    Sat β (H.set x (.cells false cs')) (w.setRow l.blk c) ∧ Grow n β H w β (H.set x (.cells false cs')) (w.setRow l.blk c) := by
  obtain ⟨l', hl', hk⟩ := hs.ok x _ hx
  rw [hl] at hl'
  obtain rfl := Option.some.inj hl'
  obtain ⟨c0, el, fz, h1, h2, h3, h4, h5⟩ := hk
  have hfz := h5 rfl
  subst hfz
  refine ⟨⟨?_, ?_⟩, ?_⟩
  · intro y b hy
    by_cases e : y = x
    · subst e
      rw [Heap.set_same] at hy
      obtain rfl := Option.some.inj hy
      exact ⟨l, hl, c, el, (0, 0), setRow_heap w l.blk c0 c el (0, 0) h1, hsz, hlen, hc, fun _ => rfl⟩
    · rw [Heap.set_ne _ _ e] at hy
      obtain ⟨m, hm, hk⟩ := hs.ok y b hy
      refine ⟨m, hm, hk.world (setRow_other ?_)⟩
      exact fun e' => (hs.sep x y _ b l m (fun e2 => e e2.symm) hx hy rfl hl hm) e'.symm
  · intro y z b1 b2 m1 m2 hyz hy hz hrw hm1 hm2
    have key : ∀ y b, H.set x (.cells false cs') y = some b → ∃ b', H y = some b' ∧ b'.rw = b.rw := by
      intro y b hy
      by_cases e : y = x
      · subst e; rw [Heap.set_same] at hy; obtain rfl := Option.some.inj hy; exact ⟨_, hx, rfl⟩
      · rw [Heap.set_ne _ _ e] at hy; exact ⟨b, hy, rfl⟩
    obtain ⟨b1', hy', e1⟩ := key y b1 hy
    obtain ⟨b2', hz', e2⟩ := key z b2 hz
    exact hs.sep y z b1' b2' m1 m2 hyz hy' hz' (e1.trans hrw) hm1 hm2
  · refine ⟨fun _ _ => rfl, rfl, rfl, rfl, by rw [setRow_size]; exact Nat.le_refl _, ?_, ?_, ?_⟩
    · intro k hk ho
      refine setRow_other fun e => ho ⟨x, _, l, hx, rfl, hl, e.symm⟩
    · rintro k ⟨y, b, m, hy, hrw, hm, rfl⟩
      by_cases e : y = x
      · subst e; exact .inl ⟨y, _, m, hx, rfl, hm, rfl⟩
      · rw [Heap.set_ne _ _ e] at hy; exact .inl (Has.own hf ⟨y, b, m, hy, hrw, hm, rfl⟩)
    · intro y hy h2
      by_cases e : y = x
      · subst e; rw [hx]; simp
      · rwa [Heap.set_ne _ _ e] at h2

/-- A block is dropped, and what lies in its place gets the first new name. -/
theorem rename_block {β : Names} {H : Heap} {w w' : World} {x n : Nat} {cs cs' : List Value} {l : Loc} (hs : Sat β H w) (hf : ∀ x, n ≤ x → β x = none)
    (hx : H x = some (.cells false cs)) (hl : β x = some l) (hs' : Sat β (H.set x (.cells false cs')) w') (hg : Grow n β H w β (H.set x (.cells false cs')) w') :
    Sat (β.set n l) ((H.del x).set n (.cells false cs')) w' ∧ (∀ y, n + 1 ≤ y → β.set n l y = none) ∧
      Grow n β H w (β.set n l) ((H.del x).set n (.cells false cs')) w' := by
  have hn : β n = none := hf n (Nat.le_refl _)
  have hle : β.le (β.set n l) := Names.le_set hn
  have hxn : x ≠ n := fun e => by subst e; rw [hl] at hn; simp at hn
  have key : ∀ y b, y ≠ n → ((H.del x).set n (.cells false cs')) y = some b → y ≠ x ∧ H y = some b ∧ H.set x (.cells false cs') y = some b := by
    intro y b e hy
    rw [Heap.set_ne _ _ e] at hy
    unfold Heap.del at hy
    by_cases e2 : y = x
    · rw [if_pos e2] at hy; simp at hy
    · rw [if_neg e2] at hy; exact ⟨e2, hy, by rw [Heap.set_ne _ _ e2]; exact hy⟩
  have hX := hs'.ok x _ (Heap.set_same _ _ _)
  obtain ⟨l', hl', hk⟩ := hX
  rw [hl] at hl'
  obtain rfl := Option.some.inj hl'
  refine ⟨⟨?_, ?_⟩, ?_, ?_⟩
  · intro y b hy
    by_cases e : y = n
    · subst e
      rw [Heap.set_same] at hy
      obtain rfl := Option.some.inj hy
      exact ⟨l, Names.set_same _ _ _, hk.names hle⟩
    · obtain ⟨_, _, h3⟩ := key y b e hy
      obtain ⟨m, hm, hk⟩ := hs'.ok y b h3
      exact ⟨m, hle _ _ hm, hk.names hle⟩
  · intro y z b1 b2 m1 m2 hyz hy hz hrw hm1 hm2
    by_cases e : y = n
    · subst e
      have e2 : z ≠ y := fun e => hyz e.symm
      obtain ⟨z1, z2, z3⟩ := key z b2 e2 hz
      rw [Names.set_same] at hm1
      rw [Names.set_ne _ _ e2] at hm2
      obtain rfl := Option.some.inj hm1
      exact hs'.sep x z _ b2 l m2 (fun e => z1 e.symm) (Heap.set_same _ _ _) z3 rfl hl hm2
    · obtain ⟨y1, y2, y3⟩ := key y b1 e hy
      rw [Names.set_ne _ _ e] at hm1
      by_cases e2 : z = n
      · subst e2
        rw [Names.set_same] at hm2
        obtain rfl := Option.some.inj hm2
        exact hs'.sep y x b1 _ m1 l y1 y3 (Heap.set_same _ _ _) hrw hm1 hl
      · obtain ⟨z1, z2, z3⟩ := key z b2 e2 hz
        rw [Names.set_ne _ _ e2] at hm2
        exact hs'.sep y z b1 b2 m1 m2 hyz y3 z3 hrw hm1 hm2
  · intro y hy
    rw [Names.set_ne _ _ (by omega)]
    exact hf y (by omega)
  · refine { hg with names := fun y hy => Names.set_ne _ _ (by omega), own := ?_, dom := ?_ }
    · rintro k ⟨y, b, m, hy, hrw, hm, rfl⟩
      by_cases e : y = n
      · subst e
        rw [Names.set_same] at hm
        obtain rfl := Option.some.inj hm
        exact .inl ⟨x, _, l, hx, rfl, hl, rfl⟩
      · obtain ⟨_, y2, _⟩ := key y b e hy
        rw [Names.set_ne _ _ e] at hm
        exact .inl (Has.own hf ⟨y, b, m, y2, hrw, hm, rfl⟩)
    · intro y hy h2
      cases hyb : ((H.del x).set n (.cells false cs')) y with
      | none => exact absurd hyb h2
      | some b => rw [(key y b (by omega) hyb).2.1]; simp

/-! ### Cells of values -/

theorem VC.one {β : Names} {c v : Value} (h : VC β c v) : c.cells = #[c] ∧ v.cells = #[v] ∧ v.oneCell' = true := by
  cases c <;> simp only [VC, V0] at h
  case func => obtain ⟨_, cs', rfl, _⟩ := h; exact ⟨rfl, rfl, rfl⟩
  case pointer a =>
    cases a with
    | none => subst h; exact ⟨rfl, rfl, rfl⟩
    | some a => obtain ⟨l, _, _, rfl⟩ := h; exact ⟨rfl, rfl, rfl⟩
  case slice a n e =>
    cases a with
    | none => obtain ⟨_, ⟨_, rfl⟩ | ⟨_, A, rfl⟩ | ⟨_, A, c, rfl⟩⟩ := h <;> exact ⟨rfl, rfl, rfl⟩
    | some a => obtain ⟨l, c, _, _, _, _, rfl⟩ := h; exact ⟨rfl, rfl, rfl⟩
  case map r =>
    cases r with
    | none => subst h; exact ⟨rfl, rfl, rfl⟩
    | some r => obtain ⟨l, _, rfl⟩ := h; exact ⟨rfl, rfl, rfl⟩
  all_goals first | exact h.elim | (subst h; exact ⟨rfl, rfl, rfl⟩)

theorem VA.cells {β : Names} {c v : Value} (h : VA β c v) : All2 (VC β) c.cells.toList v.cells.toList := by
  by_cases hc : ∃ cs, c = .agg cs
  · obtain ⟨cs, rfl⟩ := hc
    obtain ⟨cs', rfl, hh⟩ := h
    exact hh
  · have hv : VC β c v := by cases c <;> first | exact h | exact absurd ⟨_, rfl⟩ hc
    obtain ⟨h1, h2, _⟩ := hv.one
    rw [h1, h2]
    exact ⟨hv, trivial⟩

theorem All2.oneCell {β : Names} : ∀ {l m : List Value}, All2 (VC β) l m → ∀ u ∈ m, u.oneCell' = true
  | [], [], _, _, hu => by simp at hu
  | _ :: _, _ :: _, h, u, hu => by
    simp at hu
    rcases hu with rfl | hu
    · exact (VC.one h.1).2.2
    · exact All2.oneCell h.2 u hu
  | [], _ :: _, h, _, _ => h.elim
  | _ :: _, [], h, _, _ => h.elim

end Go.Sep
