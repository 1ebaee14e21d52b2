/- Shared texts of the proofs: Core, Mem, Ops, Ops2, Ops3, Ops4, Ops5, Ops6, Ops7, Ops8, Ops9, Cop, Region. -/
import Derived.Orders
import Derived.Below
import Derived.KernelRfl
import Derived.Laws.Sem
import Derived.Laws.CopyRow
import Derived.Laws.Rows
import Derived.Laws.AppendOwn
import Derived.ChangeKeysEq
import Derived.Laws.Small
import Derived.MapKept
/- A relational layer between the machine's worlds and a canonical heap: names for blocks, capacities forgotten. -/
namespace Go.Sep
open Go
set_option linter.unusedVariables false

/-! ### Names, values -/

/-- Where a named block lies: the machine's block, the first cell, how many cells the machine's block has. -/
structure Loc where
  blk : Nat
  base : Nat
  size : Nat

abbrev Names := Nat → Option Loc

/-- `β'` knows what `β` knows. -/
def Names.le (β β' : Names) : Prop := ∀ x l, β x = some l → β' x = some l

def All2 {α γ : Type} (R : α → γ → Prop) : List α → List γ → Prop
  | [], [] => True
  | a :: l, b :: m => R a b ∧ All2 R l m
  | _, _ => False

theorem All2.mono {α γ : Type} {R S : α → γ → Prop} (h : ∀ a b, R a b → S a b) : ∀ {l : List α} {m : List γ}, All2 R l m → All2 S l m
  | [], [], _ => trivial
  | _ :: _, _ :: _, hh => ⟨h _ _ hh.1, All2.mono h hh.2⟩
  | [], _ :: _, hh => hh.elim
  | _ :: _, [], hh => hh.elim

theorem All2.length {α γ : Type} {R : α → γ → Prop} : ∀ {l : List α} {m : List γ}, All2 R l m → l.length = m.length
  | [], [], _ => rfl
  | _ :: _, _ :: _, hh => by simp [All2.length hh.2]
  | [], _ :: _, hh => hh.elim
  | _ :: _, [], hh => hh.elim

theorem All2.append {α γ : Type} {R : α → γ → Prop} : ∀ {l : List α} {m : List γ} {l' : List α} {m' : List γ}, All2 R l m → All2 R l' m' → All2 R (l ++ l') (m ++ m')
  | [], [], _, _, _, h => h
  | _ :: _, _ :: _, _, _, hh, h => ⟨hh.1, All2.append hh.2 h⟩
  | [], _ :: _, _, _, hh, _ => hh.elim
  | _ :: _, [], _, _, hh, _ => hh.elim

theorem All2.get {α γ : Type} {R : α → γ → Prop} : ∀ {l : List α} {m : List γ}, All2 R l m → ∀ (i : Nat) (a : α), l[i]? = some a → ∃ b, m[i]? = some b ∧ R a b
  | [], [], _, i, a, h => by simp at h
  | x :: l, y :: m, hh, 0, a, h => ⟨y, by simp, by simp at h; exact h ▸ hh.1⟩
  | x :: l, y :: m, hh, i + 1, a, h => by
    simp at h
    obtain ⟨b, hb, hr⟩ := All2.get hh.2 i a h
    exact ⟨b, by simpa using hb, hr⟩
  | [], _ :: _, hh, _, _, _ => hh.elim
  | _ :: _, [], hh, _, _, _ => hh.elim

theorem All2.of_get {α γ : Type} {R : α → γ → Prop} : ∀ {l : List α} {m : List γ}, l.length = m.length → (∀ (i : Nat) (a : α), l[i]? = some a → ∃ b, m[i]? = some b ∧ R a b) → All2 R l m
  | [], [], _, _ => trivial
  | x :: l, y :: m, hl, h => ⟨by obtain ⟨b, hb, hr⟩ := h 0 x (by simp); simp at hb; exact hb ▸ hr,
      All2.of_get (by simpa using hl) (fun i a ha => by obtain ⟨b, hb, hr⟩ := h (i + 1) a (by simpa using ha); exact ⟨b, by simpa using hb, hr⟩)⟩
  | [], _ :: _, hl, _ => by simp at hl
  | _ :: _, [], hl, _ => by simp at hl

theorem All2.drop {α γ : Type} {R : α → γ → Prop} : ∀ (n : Nat) {l : List α} {m : List γ}, All2 R l m → All2 R (l.drop n) (m.drop n)
  | 0, _, _, h => by simpa using h
  | n + 1, [], [], _ => by simp [All2]
  | n + 1, _ :: _, _ :: _, h => by simpa using All2.drop n h.2
  | _ + 1, [], _ :: _, h => h.elim
  | _ + 1, _ :: _, [], h => h.elim

theorem All2.take {α γ : Type} {R : α → γ → Prop} : ∀ (n : Nat) {l : List α} {m : List γ}, All2 R l m → All2 R (l.take n) (m.take n)
  | 0, _, _, h => by simp [All2]
  | n + 1, [], [], _ => by simp [All2]
  | n + 1, _ :: _, _ :: _, h => by simpa [All2] using ⟨h.1, All2.take n h.2⟩
  | _ + 1, [], _ :: _, h => h.elim
  | _ + 1, _ :: _, [], h => h.elim

/-- A cell's value that is no function: the canonical one, the machine's. A canonical slice bears in the place of the capacity how many cells an element has;
    without a block: 0: nil, 1: no capacity, 2: empty. A complex number stands for any value of one cell. -/
def V0 (β : Names) : Value → Value → Prop
  | .pointer (some a), v => ∃ l, β a.block = some l ∧ a.spot = none ∧ v = .pointer (some ⟨l.blk, l.base + a.off, none⟩)
  | .slice (some a) n e, v => ∃ l c, β a.block = some l ∧ a.spot = none ∧ n ≤ c ∧ l.base + a.off + c * e ≤ l.size ∧ v = .slice (some ⟨l.blk, l.base + a.off, none⟩) n c
  | .slice none n e, v => n = 0 ∧ ((e = 0 ∧ v = .slice none 0 0) ∨ (e = 1 ∧ ∃ A, v = .slice A 0 0) ∨ (e = 2 ∧ ∃ A c, v = .slice A 0 c))
  | .map (some r), v => ∃ l, β r = some l ∧ v = .map (some l.blk)
  | .complex _ _ _, v => v.cells = #[v] ∧ v.oneCell' = true
  | .func _ _ _, _ | .agg _, _ | .tuple _, _ => False
  | c, v => c = v

/-- A cell's value. -/
def VC (β : Names) : Value → Value → Prop
  | .func fn fs cs, v => fs = #[] ∧ ∃ cs', v = .func fn #[] cs' ∧ All2 (V0 β) cs.toList cs'.toList
  | c, v => V0 β c v

/-- A value: a cell's, a struct's, an array's. -/
def VA (β : Names) : Value → Value → Prop
  | .agg cs, v => ∃ cs', v = .agg cs' ∧ All2 (VC β) cs.toList cs'.toList
  | c, v => VC β c v

/-- A value, or several. -/
def VT (β : Names) : Value → Value → Prop
  | .tuple cs, v => ∃ cs', v = .tuple cs' ∧ All2 (VA β) cs.toList cs'.toList
  | c, v => VA β c v

theorem V0.mono {β β' : Names} (h : β.le β') {c v : Value} (hv : V0 β c v) : V0 β' c v := by
  unfold V0 at *
  split <;> simp_all
  · obtain ⟨l, hl, hr⟩ := hv; exact ⟨l, h _ _ hl, hr⟩
  · obtain ⟨l, hl, hr⟩ := hv; exact ⟨l, h _ _ hl, hr⟩
  · obtain ⟨l, hl, hr⟩ := hv; exact ⟨l, h _ _ hl, hr⟩

theorem VC.mono {β β' : Names} (h : β.le β') {c v : Value} (hv : VC β c v) : VC β' c v := by
  cases c <;> simp only [VC] at hv ⊢ <;> first
    | exact V0.mono h hv
    | (obtain ⟨a, cs', b, d⟩ := hv; exact ⟨a, cs', b, d.mono fun _ _ => V0.mono h⟩)

theorem VA.mono {β β' : Names} (h : β.le β') {c v : Value} (hv : VA β c v) : VA β' c v := by
  cases c <;> simp only [VA] at hv ⊢ <;> first
    | exact VC.mono h hv
    | (obtain ⟨cs', b, d⟩ := hv; exact ⟨cs', b, d.mono fun _ _ => VC.mono h⟩)

theorem VT.mono {β β' : Names} (h : β.le β') {c v : Value} (hv : VT β c v) : VT β' c v := by
  cases c <;> simp only [VT] at hv ⊢ <;> first
    | exact VA.mono h hv
    | (obtain ⟨cs', b, d⟩ := hv; exact ⟨cs', b, d.mono fun _ _ => VA.mono h⟩)

theorem VA.of_VC {β : Names} {c v : Value} (h : VC β c v) : VA β c v := by
  cases c <;> first | exact h | exact h.elim
theorem VT.of_VA {β : Names} {c v : Value} (h : VA β c v) : VT β c v := by
  cases c <;> first | exact h | exact h.elim

/-! ### The canonical heap -/

inductive Blk where
  | cells (ro : Bool) (cs : List Value)
  | map (es : List (Value × Value))

/-- Owned: no other block lies in the same block of the machine. -/
def Blk.rw : Blk → Bool
  | .cells ro _ => !ro
  | .map _ => true

abbrev Heap := Nat → Option Blk

def Heap.set (H : Heap) (x : Nat) (b : Blk) : Heap := fun y => if y = x then some b else H y
def Heap.del (H : Heap) (x : Nat) : Heap := fun y => if y = x then none else H y
/-- `H` tells no more than `H'`. -/
def Heap.le (H H' : Heap) : Prop := ∀ x b, H x = some b → H' x = some b

theorem Heap.le.refl (H : Heap) : H.le H := fun _ _ h => h
theorem Heap.le.trans {A B C : Heap} (h : A.le B) (k : B.le C) : A.le C := fun x b hx => k x b (h x b hx)

def BlkOk (β : Names) (w : World) (l : Loc) : Blk → Prop
  | .cells ro cs => ∃ c el fz, w.heap[l.blk]? = some (.cells c el fz) ∧ c.size = l.size ∧ l.base + cs.length ≤ l.size ∧
      (∀ i v, cs[i]? = some v → ∃ u, c[l.base + i]? = some u ∧ VC β v u) ∧ (ro = false → fz = (0, 0))
  | .map es => ∃ arr clk, w.heap[l.blk]? = some (.map arr clk) ∧ All2 (fun p (q : MapEntry) => VC β p.1 q.key ∧ VC β p.2 q.val) es arr.toList

structure Sat (β : Names) (H : Heap) (w : World) : Prop where
  ok : ∀ x b, H x = some b → ∃ l, β x = some l ∧ BlkOk β w l b
  sep : ∀ x y b c l m, x ≠ y → H x = some b → H y = some c → b.rw = true → β x = some l → β y = some m → l.blk ≠ m.blk

theorem BlkOk.names {β β' : Names} (h : β.le β') {w : World} {l : Loc} {b : Blk} (hb : BlkOk β w l b) : BlkOk β' w l b := by
  cases b with
  | cells ro cs =>
    obtain ⟨c, el, fz, h1, h2, h3, h4, h5⟩ := hb
    refine ⟨c, el, fz, h1, h2, h3, fun i v hi => ?_, h5⟩
    obtain ⟨u, hu, hv⟩ := h4 i v hi
    exact ⟨u, hu, hv.mono h⟩
  | map es =>
    obtain ⟨arr, clk, h1, h2⟩ := hb
    exact ⟨arr, clk, h1, h2.mono fun _ _ hh => ⟨hh.1.mono h, hh.2.mono h⟩⟩

theorem BlkOk.world {β : Names} {w w' : World} {l : Loc} {b : Blk} (hb : BlkOk β w l b) (h : w'.heap[l.blk]? = w.heap[l.blk]?) : BlkOk β w' l b := by
  cases b <;> (unfold BlkOk at *; rw [h]; exact hb)

theorem BlkOk.lt {β : Names} {w : World} {l : Loc} {b : Blk} (hb : BlkOk β w l b) : l.blk < w.heap.size := by
  cases b with
  | cells ro cs => obtain ⟨c, el, fz, h1, _⟩ := hb; exact (Array.getElem?_eq_some_iff.mp h1).1
  | map es => obtain ⟨arr, clk, h1, _⟩ := hb; exact (Array.getElem?_eq_some_iff.mp h1).1

theorem Sat.le {β : Names} {H H' : Heap} {w : World} (h : Sat β H w) (hl : H'.le H) : Sat β H' w :=
  ⟨fun x b hx => h.ok x b (hl x b hx), fun x y b c l m hn hx hy => h.sep x y b c l m hn (hl _ _ hx) (hl _ _ hy)⟩

/-- The machine's blocks that the heap owns. -/
def Own (β : Names) (H : Heap) (k : Nat) : Prop := ∃ x b l, H x = some b ∧ b.rw = true ∧ β x = some l ∧ l.blk = k

theorem Own.le {β : Names} {H H' : Heap} {k : Nat} (h : Own β H' k) (hl : H'.le H) : Own β H k := by
  obtain ⟨x, b, l, h1, h2⟩ := h; exact ⟨x, b, l, hl _ _ h1, h2⟩

/-- Blocks of the machine that a heap owns, or that it names by a name from `n` on. -/
def Has (n : Nat) (β : Names) (H : Heap) (k : Nat) : Prop := ∃ x b l, H x = some b ∧ (b.rw = true ∨ n ≤ x) ∧ β x = some l ∧ l.blk = k

theorem Own.has {n : Nat} {β : Names} {H : Heap} {k : Nat} (h : Own β H k) : Has n β H k := by
  obtain ⟨x, b, l, h1, h2, h3⟩ := h; exact ⟨x, b, l, h1, .inl h2, h3⟩
theorem Has.le {n : Nat} {β : Names} {H H' : Heap} {k : Nat} (h : Has n β H' k) (hl : H'.le H) : Has n β H k := by
  obtain ⟨x, b, l, h1, h2⟩ := h; exact ⟨x, b, l, hl _ _ h1, h2⟩
theorem Has.mono {n m : Nat} {β : Names} {H : Heap} {k : Nat} (h : Has n β H k) (hm : m ≤ n) : Has m β H k := by
  obtain ⟨x, b, l, h1, h2, h3⟩ := h; exact ⟨x, b, l, h1, h2.imp id (Nat.le_trans hm), h3⟩

/-- What a run does to the machine's world: it writes only to what the heap owns, and owns behind it only that and what is new. -/
structure Grow (n : Nat) (β : Names) (H : Heap) (w : World) (β' : Names) (H' : Heap) (w' : World) : Prop where
  names : ∀ x, x < n → β' x = β x
  os : w'.os = w.os
  tape : w'.tape = w.tape
  output : w'.output = w.output
  size : w.heap.size ≤ w'.heap.size
  keep : ∀ k, k < w.heap.size → ¬ Own β H k → w'.heap[k]? = w.heap[k]?
  own : ∀ k, Has n β' H' k → Own β H k ∨ w.heap.size ≤ k
  dom : ∀ x, x < n → H' x ≠ none → H x ≠ none

theorem Has.own {n : Nat} {β : Names} {H : Heap} {k : Nat} (hf : ∀ x, n ≤ x → β x = none) (h : Has n β H k) : Own β H k := by
  obtain ⟨x, b, l, h1, h2 | h2, h3, h4⟩ := h
  · exact ⟨x, b, l, h1, h2, h3, h4⟩
  · rw [hf x h2] at h3; simp at h3

theorem Grow.refl {n : Nat} {β : Names} (H : Heap) (w : World) (hf : ∀ x, n ≤ x → β x = none) : Grow n β H w β H w :=
  ⟨fun _ _ => rfl, rfl, rfl, rfl, Nat.le_refl _, fun _ _ _ => rfl, fun _ h => .inl (h.own hf), fun _ _ h => h⟩

theorem Grow.trans {n n1 : Nat} {β β1 β2 : Names} {H H1 H2 : Heap} {w w1 w2 : World} (h : Grow n β H w β1 H1 w1) (hn : n ≤ n1) (k : Grow n1 β1 H1 w1 β2 H2 w2) :
    Grow n β H w β2 H2 w2 where
  names x hx := (k.names x (by omega)).trans (h.names x hx)
  os := k.os.trans h.os
  tape := k.tape.trans h.tape
  output := k.output.trans h.output
  size := Nat.le_trans h.size k.size
  keep j hj ho := by
    have hj1 : j < w1.heap.size := Nat.lt_of_lt_of_le hj h.size
    refine (k.keep j hj1 fun ho1 => ?_).trans (h.keep j hj ho)
    rcases h.own j ho1.has with h1 | h1
    · exact ho h1
    · omega
  own j ho := by
    have back : Has n β1 H1 j → Own β H j ∨ w.heap.size ≤ j := h.own j
    obtain ⟨x, b, l, h1, h2, h3, h4⟩ := ho
    by_cases hx : b.rw = true ∨ n1 ≤ x
    · rcases k.own j ⟨x, b, l, h1, hx, h3, h4⟩ with g | g
      · exact back g.has
      · exact .inr (Nat.le_trans h.size g)
    · have hx1 : x < n1 := by
        rcases Nat.lt_or_ge x n1 with g | g
        · exact g
        · exact absurd (.inr g) hx
      have hnx : n ≤ x := by
        rcases h2 with g | g
        · exact absurd (.inl g) hx
        · exact g
      have hd := k.dom x hx1 (by rw [h1]; simp)
      rw [k.names x hx1] at h3
      cases hH : H1 x with
      | none => exact absurd hH hd
      | some b1 => exact back ⟨x, b1, l, hH, .inr hnx, h3, h4⟩
  dom x hx h2 := h.dom x hx (k.dom x (by omega) h2)

theorem Grow.mono {n m : Nat} {β β' : Names} {H H' : Heap} {w w' : World} (h : Grow n β H w β' H' w') (hm : m ≤ n) (hf : ∀ x, m ≤ x → β x = none) : Grow m β H w β' H' w' where
  names x hx := h.names x (by omega)
  os := h.os
  tape := h.tape
  output := h.output
  size := h.size
  keep := h.keep
  own k hk := by
    obtain ⟨x, b, l, h1, h2, h3, h4⟩ := hk
    by_cases hx : b.rw = true ∨ n ≤ x
    · exact h.own k ⟨x, b, l, h1, hx, h3, h4⟩
    · have hxn : x < n := by
        rcases Nat.lt_or_ge x n with g | g
        · exact g
        · exact absurd (.inr g) hx
      have hmx : m ≤ x := by
        rcases h2 with g | g
        · exact absurd (.inl g) hx
        · exact g
      rw [h.names x hxn, hf x hmx] at h3
      simp at h3
  dom x hx := h.dom x (by omega)

/-- A smaller heap before, a smaller heap behind. -/
theorem Grow.weaken {n : Nat} {β β' : Names} {H G H' G' : Heap} {w w' : World} (h : Grow n β G w β' H' w') (hG : G.le H) (hG' : G'.le H') : Grow n β H w β' G' w' :=
  { h with
    keep := fun k hk ho => h.keep k hk fun ho' => ho (ho'.le hG)
    own := fun k ho => (h.own k (ho.le hG')).imp (fun o => o.le hG) id
    dom := fun x hx h2 => by
      cases hg : G' x with
      | none => exact absurd hg h2
      | some b =>
        have h3 := h.dom x hx (by rw [hG' x b hg]; simp)
        cases hG0 : G x with
        | none => exact absurd hG0 h3
        | some c => rw [hG x c hG0]; simp }

/-! ### The canonical state -/

abbrev Temps := List (Nat × Value)
def get : Temps → Nat → Option Value
  | [], _ => none
  | (k, v) :: r, t => if k = t then some v else get r t

structure St where
  ts : Temps
  H : Heap
  n : Nat

structure Rel (N : Nat) (β : Names) (s : St) (a : Act) (w : World) : Prop where
  defers : a.defers = []
  size : a.tmps.size = N
  tmp : ∀ t v, get s.ts t = some v → ∃ u, a.tmps[t]? = some u ∧ VT β v u
  sat : Sat β s.H w
  fresh : ∀ x, s.n ≤ x → β x = none

/-- `s'` tells no more than `s` (and may begin its new names later). -/
structure Less (s' s : St) : Prop where
  ts : ∀ t v, get s'.ts t = some v → get s.ts t = some v
  heap : s'.H.le s.H
  n : s.n ≤ s'.n

theorem Less.refl (s : St) : Less s s := ⟨fun _ _ h => h, Heap.le.refl _, Nat.le_refl _⟩
theorem Less.trans {a b c : St} (h : Less a b) (k : Less b c) : Less a c := ⟨fun t v hh => k.ts t v (h.ts t v hh), h.heap.trans k.heap, Nat.le_trans k.n h.n⟩

theorem Rel.less {N : Nat} {β : Names} {s s' : St} {a : Act} {w : World} (h : Rel N β s a w) (hl : Less s' s) : Rel N β s' a w :=
  ⟨h.defers, h.size, fun t v ht => h.tmp t v (hl.ts t v ht), h.sat.le hl.heap, fun x hx => h.fresh x (Nat.le_trans hl.n hx)⟩

/-! ### The triple for code -/

/-- What the machine's end must be for a canonical post `Q`. -/
def Post (N : Nat) (β : Names) (s : St) (w : World) (Q : Exit → St → Prop) : Exit → Act → World → Prop :=
  fun e a' w' => ∃ s' β', Q e s' ∧ s.n ≤ s'.n ∧ Rel N β' s' a' w' ∧ Grow s.n β s.H w β' s'.H w'

def W (P : Program) (N : Nat) (c : Code) (s : St) (Q : Exit → St → Prop) : Prop :=
  ∀ β a w, Rel N β s a w → c.wp P (Post N β s w Q) a w

variable {P : Program} {N : Nat} {s : St} {Q : Exit → St → Prop}

theorem Post.here {β : Names} {a : Act} {w : World} {e : Exit} (hr : Rel N β s a w) (h : Q e s) : Post N β s w Q e a w :=
  ⟨s, β, h, Nat.le_refl _, hr, Grow.refl _ _ hr.fresh⟩

theorem Post.trans {β β1 : Names} {s1 : St} {w w1 w2 : World} {a2 : Act} {e : Exit} {Q' : Exit → St → Prop} (hn : s.n ≤ s1.n) (hg : Grow s.n β s.H w β1 s1.H w1)
    (hq : ∀ s, Q' e s → Q e s) (h : Post N β1 s1 w1 Q' e a2 w2) : Post N β s w Q e a2 w2 := by
  obtain ⟨s2, β2, hQ, hn2, hr, hg2⟩ := h
  exact ⟨s2, β2, hq _ hQ, Nat.le_trans hn hn2, hr, hg.trans hn hg2⟩

theorem W.mono {c : Code} {Q' : Exit → St → Prop} (h : W P N c s Q) (hq : ∀ e s, Q e s → Q' e s) : W P N c s Q' := fun β a w hr =>
  wp_mono (h β a w hr) fun e a' w' ⟨s', β', hQ, r⟩ => ⟨s', β', hq _ _ hQ, r⟩

/-- What is known may be forgotten ahead of the code .. -/
theorem W.less {c : Code} {s' : St} (hl : Less s' s) (h : W P N c s' Q) : W P N c s Q := fun β a w hr =>
  wp_mono (h β a w (hr.less hl)) fun e a' w' ⟨s2, β', hQ, hn, hr2, hg⟩ =>
    ⟨s2, β', hQ, Nat.le_trans hl.n hn, hr2, (hg.mono hl.n hr.fresh).weaken hl.heap (Heap.le.refl _)⟩

/-- .. and behind it. -/
theorem W.post {c : Code} (h : W P N c s fun e s1 => ∃ s2, Less s2 s1 ∧ Q e s2) : W P N c s Q := fun β a w hr =>
  wp_mono (h β a w hr) fun e a' w' ⟨s1, β', ⟨s2, hl, hQ⟩, hn, hr2, hg⟩ =>
    ⟨s2, β', hQ, Nat.le_trans hn hl.n, hr2.less hl, hg.weaken (Heap.le.refl _) hl.heap⟩

/-- No block has a name that is still new. -/
theorem W.fresh {c : Code} (h : (∀ x, s.n ≤ x → s.H x = none) → W P N c s Q) : W P N c s Q := fun β a w hr =>
  h (fun x hx => by
    cases hH : s.H x with
    | none => rfl
    | some b => obtain ⟨l, hl, _⟩ := hr.sat.ok x b hH; rw [hr.fresh x hx] at hl; simp at hl) β a w hr

theorem W.skip (h : Q .normal s) : W P N .skip s Q := fun _ _ _ hr => wp_skip (Post.here hr h)
theorem W.ret (h : Q .ret s) : W P N .ret s Q := fun _ _ _ hr => wp_ret (Post.here hr h)
theorem W.exit {id : Nat} (h : Q (.exit id) s) : W P N (.exit id) s Q := fun _ _ _ hr => wp_exit (Post.here hr h)

/-- Behind the first of two: the second. -/
def thenS (K : St → Prop) (Q : Exit → St → Prop) : Exit → St → Prop
  | .normal, s => K s
  | e, s => Q e s

theorem W.seq {c d : Code} (h : W P N c s (thenS (fun s1 => W P N d s1 Q) Q)) : W P N (c.seq d) s Q := fun β a w hr =>
  wp_seq (wp_mono (h β a w hr) fun e a1 w1 hp => by
    obtain ⟨s1, β1, hQ, hn, hr1, hg⟩ := hp
    cases e with
    | normal => exact wp_mono (hQ β1 a1 w1 hr1) fun e2 a2 w2 h2 => Post.trans hn hg (fun _ h => h) h2
    | exit id => exact ⟨s1, β1, hQ, hn, hr1, hg⟩
    | goto l => exact ⟨s1, β1, hQ, hn, hr1, hg⟩
    | ret => exact ⟨s1, β1, hQ, hn, hr1, hg⟩
    | panic ch => exact ⟨s1, β1, hQ, hn, hr1, hg⟩
    | outgrown => exact ⟨s1, β1, hQ, hn, hr1, hg⟩)

def blockS (id : Nat) (Q : Exit → St → Prop) : Exit → St → Prop
  | .exit i, s => if i = id then Q .normal s else Q (.exit i) s
  | e, s => Q e s

theorem W.block {id : Nat} {c : Code} (h : W P N c s (blockS id Q)) : W P N (.block id c) s Q := fun β a w hr =>
  wp_block (wp_mono (h β a w hr) fun e a1 w1 hp => by
    obtain ⟨s1, β1, hQ, hn, hr1, hg⟩ := hp
    cases e with
    | exit i =>
      simp only [Exit.inBlock]
      by_cases hi : i = id
      · rw [if_pos hi]; simp only [blockS, hi, if_true] at hQ; exact ⟨s1, β1, hQ, hn, hr1, hg⟩
      · rw [if_neg hi]; simp only [blockS, hi, if_false] at hQ; exact ⟨s1, β1, hQ, hn, hr1, hg⟩
    | normal => exact ⟨s1, β1, hQ, hn, hr1, hg⟩
    | goto l => exact ⟨s1, β1, hQ, hn, hr1, hg⟩
    | ret => exact ⟨s1, β1, hQ, hn, hr1, hg⟩
    | panic ch => exact ⟨s1, β1, hQ, hn, hr1, hg⟩
    | outgrown => exact ⟨s1, β1, hQ, hn, hr1, hg⟩)

/-- A loop: a number that each round lowers (it may be chosen anew each round), and what holds at each round's head. -/
theorem W.loop {c : Code} (Inv : Nat → St → Prop) (k : Nat) (h0 : Inv k s)
    (round : ∀ k s, Inv k s → W P N c s (thenS (fun s' => ∃ k', k' < k ∧ Inv k' s') Q)) : W P N (.loop c) s Q := by
  intro β a w hr b kk cs
  have key : ∀ k, ∀ s β a w, Inv k s → Rel N β s a w →
      ∃ e a' w', Post N β s w Q e a' w' ∧ Arrives P (lone (b.at a (.code c :: .inLoop c :: kk)) cs w) b kk cs e a' w' := by
    intro k
    induction k using Nat.strongRecOn with
    | _ k ih =>
      intro s β a w hI hr
      obtain ⟨e, a₁, w₁, hq, harr⟩ := round k s hI β a w hr b (.inLoop c :: kk) cs
      obtain ⟨s1, β1, hQ, hn, hr1, hg⟩ := hq
      cases e with
      | normal =>
        obtain ⟨k', hlt, hI'⟩ := hQ
        obtain ⟨e₂, a₂, w₂, hq₂, harr₂⟩ := ih k' hlt s1 β1 a₁ w₁ hI' hr1
        exact ⟨e₂, a₂, w₂, Post.trans hn hg (fun _ h => h) hq₂, .of_steps (Steps.trans harr (.one step_inLoop)) harr₂⟩
      | exit id => exact ⟨_, a₁, w₁, ⟨s1, β1, hQ, hn, hr1, hg⟩, .pass (x := .inLoop c) rfl (fun _ _ => .inl (by simp)) harr⟩
      | goto l => exact ⟨_, a₁, w₁, ⟨s1, β1, hQ, hn, hr1, hg⟩, .pass (x := .inLoop c) rfl (fun _ _ => .inl (by simp)) harr⟩
      | ret => exact ⟨_, a₁, w₁, ⟨s1, β1, hQ, hn, hr1, hg⟩, .pass (x := .inLoop c) rfl (fun _ _ => .inl (by simp)) harr⟩
      | panic ch => exact ⟨_, a₁, w₁, ⟨s1, β1, hQ, hn, hr1, hg⟩, .pass (x := .inLoop c) rfl (fun _ _ => .inl (by simp)) harr⟩
      | outgrown => exact ⟨_, a₁, w₁, ⟨s1, β1, hQ, hn, hr1, hg⟩, .pass (x := .inLoop c) rfl (fun _ _ => .inl (by simp)) harr⟩
  obtain ⟨e, a', w', hq, harr⟩ := key k s β a w h0 hr
  exact ⟨e, a', w', hq, .of_steps (.one step_loop) harr⟩

end Go.Sep
/- What becomes of the relation between the machine's world and the canonical heap when a block is made, written, or appended to. -/
namespace Go.Sep
open Go
set_option linter.unusedVariables false

def Names.set (β : Names) (x : Nat) (l : Loc) : Names := fun y => if y = x then some l else β y

theorem Names.le_set {β : Names} {n : Nat} {l : Loc} (h : β n = none) : β.le (β.set n l) := fun y m hy => by
  unfold Names.set
  by_cases e : y = n
  · subst e; rw [h] at hy; simp at hy
  · rw [if_neg e]; exact hy

theorem Names.set_same (β : Names) (x : Nat) (l : Loc) : β.set x l x = some l := by simp [Names.set]
theorem Names.set_ne (β : Names) {x y : Nat} (l : Loc) (h : y ≠ x) : β.set x l y = β y := by simp [Names.set, h]

theorem Heap.set_same (H : Heap) (x : Nat) (b : Blk) : H.set x b x = some b := by simp [Heap.set]
theorem Heap.set_ne (H : Heap) {x y : Nat} (b : Blk) (h : y ≠ x) : H.set x b y = H y := by simp [Heap.set, h]

theorem heap_alloc_lt {w : World} {o : Obj} {k : Nat} (h : k < w.heap.size) : (w.alloc o).heap[k]? = w.heap[k]? := by
  show (w.heap.push o)[k]? = _
  rw [Array.getElem?_push, if_neg (by omega)]
theorem heap_alloc_new {w : World} {o : Obj} : (w.alloc o).heap[w.heap.size]? = some o := by
  show (w.heap.push o)[w.heap.size]? = _
  simp

/-- A block that is new in the machine gets the first new name. -/
theorem new_block {β : Names} {H : Heap} {w : World} {n : Nat} {o : Obj} {b : Blk} {sz : Nat} (hs : Sat β H w) (hf : ∀ x, n ≤ x → β x = none)
    (hb : BlkOk β (w.alloc o) ⟨w.heap.size, 0, sz⟩ b) :
    Sat (β.set n ⟨w.heap.size, 0, sz⟩) (H.set n b) (w.alloc o) ∧ (∀ x, n + 1 ≤ x → β.set n ⟨w.heap.size, 0, sz⟩ x = none) ∧
      Grow n β H w (β.set n ⟨w.heap.size, 0, sz⟩) (H.set n b) (w.alloc o) := by
  have hn : β n = none := hf n (Nat.le_refl _)
  have hle : β.le (β.set n ⟨w.heap.size, 0, sz⟩) := Names.le_set hn
  have hHn : H n = none := by
    cases hH : H n with
    | none => rfl
    | some b => obtain ⟨l, hl, _⟩ := hs.ok n b hH; rw [hn] at hl; simp at hl
  refine ⟨⟨?_, ?_⟩, ?_, ?_⟩
  · intro x b' hx
    by_cases e : x = n
    · subst e
      rw [Heap.set_same] at hx
      obtain rfl := Option.some.inj hx
      exact ⟨_, Names.set_same _ _ _, hb.names hle⟩
    · rw [Heap.set_ne _ _ e] at hx
      obtain ⟨l, hl, hk⟩ := hs.ok x b' hx
      exact ⟨l, hle _ _ hl, (hk.world (heap_alloc_lt hk.lt)).names hle⟩
  · intro x y b1 b2 l m hxy hx hy hrw hl hm
    by_cases e : x = n
    · subst e
      have hy' : y ≠ x := fun e => hxy e.symm
      rw [Names.set_same] at hl
      rw [Names.set_ne _ _ hy'] at hm
      rw [Heap.set_ne _ _ hy'] at hy
      obtain ⟨m', hm', hk⟩ := hs.ok y b2 hy
      rw [hm] at hm'
      obtain rfl := Option.some.inj hm'
      obtain rfl := Option.some.inj hl
      have := hk.lt
      simp
      omega
    · by_cases e2 : y = n
      · subst e2
        rw [Names.set_same] at hm
        rw [Names.set_ne _ _ e] at hl
        rw [Heap.set_ne _ _ e] at hx
        obtain ⟨l', hl', hk⟩ := hs.ok x b1 hx
        rw [hl] at hl'
        obtain rfl := Option.some.inj hl'
        obtain rfl := Option.some.inj hm
        have := hk.lt
        simp
        omega
      · rw [Names.set_ne _ _ e] at hl
        rw [Names.set_ne _ _ e2] at hm
        rw [Heap.set_ne _ _ e] at hx
        rw [Heap.set_ne _ _ e2] at hy
        exact hs.sep x y b1 b2 l m hxy hx hy hrw hl hm
  · intro x hx
    rw [Names.set_ne _ _ (by omega)]
    exact hf x (by omega)
  · refine ⟨fun x hx => Names.set_ne _ _ (by omega), rfl, rfl, rfl, by simp, fun k hk _ => heap_alloc_lt hk, ?_, ?_⟩
    · rintro k ⟨x, b', l, hx, hrw, hl, rfl⟩
      by_cases e : x = n
      · subst e
        rw [Names.set_same] at hl
        obtain rfl := Option.some.inj hl
        exact .inr (Nat.le_refl _)
      · rw [Names.set_ne _ _ e] at hl
        rw [Heap.set_ne _ _ e] at hx
        exact .inl (Has.own hf ⟨x, b', l, hx, hrw, hl, rfl⟩)
    · intro x hx h2
      rwa [Heap.set_ne _ _ (by omega)] at h2

theorem setRow_other {w : World} {g k : Nat} {cs : Array Value} (h : k ≠ g) : (w.setRow g cs).heap[k]? = w.heap[k]? := by
  unfold World.setRow
  simp only [Array.getElem?_modify]
  rw [if_neg (fun e => h e.symm)]
theorem setRow_size (w : World) (g : Nat) (cs : Array Value) : (w.setRow g cs).heap.size = w.heap.size := by simp [World.setRow]

/-- Cells of an owned block are written; the block keeps its name. -/
theorem write_block {β : Names} {H : Heap} {w : World} {x : Nat} {cs cs' : List Value} {l : Loc} {c : Array Value} (hs : Sat β H w)
    (hx : H x = some (.cells false cs)) (hl : β x = some l) (hsz : c.size = l.size) (hlen : l.base + cs'.length ≤ l.size)
    (hc : ∀ i v, cs'[i]? = some v → ∃ u, c[l.base + i]? = some u ∧ VC β v u) (n : Nat) (hf : ∀ x, n ≤ x → β x = none) :
    Sat β (H.set x (.cells false cs')) (w.setRow l.blk c) ∧ Grow n β H w β (H.set x (.cells false cs')) (w.setRow l.blk c) := by
  obtain ⟨l', hl', hk⟩ := hs.ok x _ hx
  rw [hl] at hl'
  obtain rfl := Option.some.inj hl'
  obtain ⟨c0, el, fz, h1, h2, h3, h4, h5⟩ := hk
  have hfz := h5 rfl
  subst hfz
  refine ⟨⟨?_, ?_⟩, ?_⟩
  · intro y b hy
    by_cases e : y = x
    · subst e
      rw [Heap.set_same] at hy
      obtain rfl := Option.some.inj hy
      exact ⟨l, hl, c, el, (0, 0), setRow_heap w l.blk c0 c el (0, 0) h1, hsz, hlen, hc, fun _ => rfl⟩
    · rw [Heap.set_ne _ _ e] at hy
      obtain ⟨m, hm, hk⟩ := hs.ok y b hy
      refine ⟨m, hm, hk.world (setRow_other ?_)⟩
      exact fun e' => (hs.sep x y _ b l m (fun e2 => e e2.symm) hx hy rfl hl hm) e'.symm
  · intro y z b1 b2 m1 m2 hyz hy hz hrw hm1 hm2
    have key : ∀ y b, H.set x (.cells false cs') y = some b → ∃ b', H y = some b' ∧ b'.rw = b.rw := by
      intro y b hy
      by_cases e : y = x
      · subst e; rw [Heap.set_same] at hy; obtain rfl := Option.some.inj hy; exact ⟨_, hx, rfl⟩
      · rw [Heap.set_ne _ _ e] at hy; exact ⟨b, hy, rfl⟩
    obtain ⟨b1', hy', e1⟩ := key y b1 hy
    obtain ⟨b2', hz', e2⟩ := key z b2 hz
    exact hs.sep y z b1' b2' m1 m2 hyz hy' hz' (e1.trans hrw) hm1 hm2
  · refine ⟨fun _ _ => rfl, rfl, rfl, rfl, by rw [setRow_size]; exact Nat.le_refl _, ?_, ?_, ?_⟩
    · intro k hk ho
      refine setRow_other fun e => ho ⟨x, _, l, hx, rfl, hl, e.symm⟩
    · rintro k ⟨y, b, m, hy, hrw, hm, rfl⟩
      by_cases e : y = x
      · subst e; exact .inl ⟨y, _, m, hx, rfl, hm, rfl⟩
      · rw [Heap.set_ne _ _ e] at hy; exact .inl (Has.own hf ⟨y, b, m, hy, hrw, hm, rfl⟩)
    · intro y hy h2
      by_cases e : y = x
      · subst e; rw [hx]; simp
      · rwa [Heap.set_ne _ _ e] at h2

/-- A block is dropped, and what lies in its place gets the first new name. -/
theorem rename_block {β : Names} {H : Heap} {w w' : World} {x n : Nat} {cs cs' : List Value} {l : Loc} (hs : Sat β H w) (hf : ∀ x, n ≤ x → β x = none)
    (hx : H x = some (.cells false cs)) (hl : β x = some l) (hs' : Sat β (H.set x (.cells false cs')) w') (hg : Grow n β H w β (H.set x (.cells false cs')) w') :
    Sat (β.set n l) ((H.del x).set n (.cells false cs')) w' ∧ (∀ y, n + 1 ≤ y → β.set n l y = none) ∧
      Grow n β H w (β.set n l) ((H.del x).set n (.cells false cs')) w' := by
  have hn : β n = none := hf n (Nat.le_refl _)
  have hle : β.le (β.set n l) := Names.le_set hn
  have hxn : x ≠ n := fun e => by subst e; rw [hl] at hn; simp at hn
  have key : ∀ y b, y ≠ n → ((H.del x).set n (.cells false cs')) y = some b → y ≠ x ∧ H y = some b ∧ H.set x (.cells false cs') y = some b := by
    intro y b e hy
    rw [Heap.set_ne _ _ e] at hy
    unfold Heap.del at hy
    by_cases e2 : y = x
    · rw [if_pos e2] at hy; simp at hy
    · rw [if_neg e2] at hy; exact ⟨e2, hy, by rw [Heap.set_ne _ _ e2]; exact hy⟩
  have hX := hs'.ok x _ (Heap.set_same _ _ _)
  obtain ⟨l', hl', hk⟩ := hX
  rw [hl] at hl'
  obtain rfl := Option.some.inj hl'
  refine ⟨⟨?_, ?_⟩, ?_, ?_⟩
  · intro y b hy
    by_cases e : y = n
    · subst e
      rw [Heap.set_same] at hy
      obtain rfl := Option.some.inj hy
      exact ⟨l, Names.set_same _ _ _, hk.names hle⟩
    · obtain ⟨_, _, h3⟩ := key y b e hy
      obtain ⟨m, hm, hk⟩ := hs'.ok y b h3
      exact ⟨m, hle _ _ hm, hk.names hle⟩
  · intro y z b1 b2 m1 m2 hyz hy hz hrw hm1 hm2
    by_cases e : y = n
    · subst e
      have e2 : z ≠ y := fun e => hyz e.symm
      obtain ⟨z1, z2, z3⟩ := key z b2 e2 hz
      rw [Names.set_same] at hm1
      rw [Names.set_ne _ _ e2] at hm2
      obtain rfl := Option.some.inj hm1
      exact hs'.sep x z _ b2 l m2 (fun e => z1 e.symm) (Heap.set_same _ _ _) z3 rfl hl hm2
    · obtain ⟨y1, y2, y3⟩ := key y b1 e hy
      rw [Names.set_ne _ _ e] at hm1
      by_cases e2 : z = n
      · subst e2
        rw [Names.set_same] at hm2
        obtain rfl := Option.some.inj hm2
        exact hs'.sep y x b1 _ m1 l y1 y3 (Heap.set_same _ _ _) hrw hm1 hl
      · obtain ⟨z1, z2, z3⟩ := key z b2 e2 hz
        rw [Names.set_ne _ _ e2] at hm2
        exact hs'.sep y z b1 b2 m1 m2 hyz y3 z3 hrw hm1 hm2
  · intro y hy
    rw [Names.set_ne _ _ (by omega)]
    exact hf y (by omega)
  · refine { hg with names := fun y hy => Names.set_ne _ _ (by omega), own := ?_, dom := ?_ }
    · rintro k ⟨y, b, m, hy, hrw, hm, rfl⟩
      by_cases e : y = n
      · subst e
        rw [Names.set_same] at hm
        obtain rfl := Option.some.inj hm
        exact .inl ⟨x, _, l, hx, rfl, hl, rfl⟩
      · obtain ⟨_, y2, _⟩ := key y b e hy
        rw [Names.set_ne _ _ e] at hm
        exact .inl (Has.own hf ⟨y, b, m, y2, hrw, hm, rfl⟩)
    · intro y hy h2
      cases hyb : ((H.del x).set n (.cells false cs')) y with
      | none => exact absurd hyb h2
      | some b => rw [(key y b (by omega) hyb).2.1]; simp

/-! ### Cells of values -/

theorem VC.one {β : Names} {c v : Value} (h : VC β c v) : c.cells = #[c] ∧ v.cells = #[v] ∧ v.oneCell' = true := by
  cases c <;> simp only [VC, V0] at h
  case func => obtain ⟨_, cs', rfl, _⟩ := h; exact ⟨rfl, rfl, rfl⟩
  case pointer a =>
    cases a with
    | none => subst h; exact ⟨rfl, rfl, rfl⟩
    | some a => obtain ⟨l, _, _, rfl⟩ := h; exact ⟨rfl, rfl, rfl⟩
  case slice a n e =>
    cases a with
    | none => obtain ⟨_, ⟨_, rfl⟩ | ⟨_, A, rfl⟩ | ⟨_, A, c, rfl⟩⟩ := h <;> exact ⟨rfl, rfl, rfl⟩
    | some a => obtain ⟨l, c, _, _, _, _, rfl⟩ := h; exact ⟨rfl, rfl, rfl⟩
  case map r =>
    cases r with
    | none => subst h; exact ⟨rfl, rfl, rfl⟩
    | some r => obtain ⟨l, _, rfl⟩ := h; exact ⟨rfl, rfl, rfl⟩
  case complex => exact ⟨rfl, h.1, h.2⟩
  all_goals first | exact h.elim | (subst h; exact ⟨rfl, rfl, rfl⟩)

theorem VA.cells {β : Names} {c v : Value} (h : VA β c v) : All2 (VC β) c.cells.toList v.cells.toList := by
  by_cases hc : ∃ cs, c = .agg cs
  · obtain ⟨cs, rfl⟩ := hc
    obtain ⟨cs', rfl, hh⟩ := h
    exact hh
  · have hv : VC β c v := by cases c <;> first | exact h | exact absurd ⟨_, rfl⟩ hc
    obtain ⟨h1, h2, _⟩ := hv.one
    rw [h1, h2]
    exact ⟨hv, trivial⟩

theorem All2.oneCell {β : Names} : ∀ {l m : List Value}, All2 (VC β) l m → ∀ u ∈ m, u.oneCell' = true
  | [], [], _, _, hu => by simp at hu
  | _ :: _, _ :: _, h, u, hu => by
    simp at hu
    rcases hu with rfl | hu
    · exact (VC.one h.1).2.2
    · exact All2.oneCell h.2 u hu
  | [], _ :: _, h, _, _ => h.elim
  | _ :: _, [], h, _, _ => h.elim

end Go.Sep
/- The operations that call no Go function, on canonical values and the canonical heap. -/
namespace Go.Sep
open Go
set_option linter.unusedVariables false

/-! ### What a type is -/

inductive TD where
  | int (k : IntKind) | bool | string
  | slice (e : TypeId) | array (n : Nat) (e : TypeId) | struct (fs : List (Nat × TypeId))
  | map (k e : TypeId) | pointer (e : TypeId) | func | other

def TD.of : TypeDesc → TD
  | .int k => .int k
  | .bool => .bool
  | .string => .string
  | .slice e => .slice e
  | .array n e => .array n e
  | .struct fs => .struct (fs.toList.map fun f => (f.offset, f.type))
  | .map k e => .map k e
  | .pointer e => .pointer e
  | .func _ _ _ => .func
  | _ => .other

def TD.agg : TD → Bool
  | .struct _ | .array _ _ => true
  | _ => false

structure TI where
  desc : TD
  size : Nat
  bytes : Nat
  zero : List Value
  guard : Bool

def ti (P : Program) (t : TypeId) : Option TI :=
  match P.underlying t, P.info? t with
  | some d, some i => match i.zero with
    | some z => some ⟨TD.of d, i.size, i.bytes, z.cells.toList, P.eqGuardType P.depth t⟩
    | none => none
  | _, _ => none

theorem ti_some {P : Program} {t : TypeId} {T : TI} (h : ti P t = some T) : ∃ d i z, P.underlying t = some d ∧ P.info? t = some i ∧ i.zero = some z ∧
    T.desc = TD.of d ∧ T.size = i.size ∧ T.bytes = i.bytes ∧ T.zero = z.cells.toList ∧ T.guard = P.eqGuardType P.depth t := by
  unfold ti at h
  split at h
  · rename_i d i hd hi
    split at h
    · rename_i z hz
      obtain rfl := Option.some.inj h
      exact ⟨d, i, z, hd, hi, hz, rfl, rfl, rfl, rfl, rfl⟩
    · simp at h
  · simp at h

/-! ### Operands -/

def konst0 : Value → Bool
  | .bool _ | .int _ _ | .string _ | .nilFunc | .pointer none | .map none | .nilIface | .slice none 0 0 => true
  | _ => false
def konst : Value → Bool
  | .agg cs => cs.toList.all konst0
  | v => konst0 v

def ev (ts : Temps) : Operand → Option Value
  | .tmp t => get ts t
  | .const v => if konst v then some v else none
  | .func f => some (.func (.func f) #[] #[])
  | .global _ => none

theorem konst0_VC {β : Names} {v : Value} (h : konst0 v = true) : VC β v v := by
  unfold konst0 at h
  split at h <;> simp_all [VC, V0]

theorem konst0_All2 {β : Names} : ∀ {l : List Value}, l.all konst0 = true → All2 (VC β) l l
  | [], _ => trivial
  | v :: l, h => by simp at h; exact ⟨konst0_VC h.1, konst0_All2 (by simpa using h.2)⟩

theorem konst_VA {β : Names} {v : Value} (h : konst v = true) : VA β v v := by
  unfold konst at h
  split at h
  · exact ⟨_, rfl, konst0_All2 h⟩
  · exact VA.of_VC (konst0_VC h)

theorem ev_rel {N : Nat} {β : Names} {s : St} {a : Act} {w : World} (hr : Rel N β s a w) {x : Operand} {v : Value} (h : ev s.ts x = some v) : VT β v (a.eval x) := by
  cases x with
  | tmp t =>
    obtain ⟨u, hu, hv⟩ := hr.tmp t v h
    simpa [Act.eval, hu] using hv
  | const c =>
    simp only [ev] at h
    split at h
    · obtain rfl := Option.some.inj h
      exact VT.of_VA (konst_VA ‹_›)
    · simp at h
  | func f =>
    simp only [ev] at h
    obtain rfl := Option.some.inj h
    exact ⟨rfl, #[], rfl, trivial⟩
  | global g => simp [ev] at h

/-! ### Cells -/

/-- What a variable holds that lies from `off` on. -/
def loadC (T : TI) (cs : List Value) (off : Nat) : Option Value :=
  if T.desc.agg then if off + T.size ≤ cs.length then some (.agg ((cs.drop off).take T.size).toArray) else none
  else cs[off]?

def putC (cs : List Value) (off : Nat) (vs : List Value) : List Value :=
  match vs with
  | [v] => cs.set off v
  | vs => if off = 0 ∧ vs.length = cs.length then vs else cs.take off ++ vs ++ cs.drop (off + vs.length)

theorem putC_eq {cs : List Value} {off : Nat} {vs : List Value} (h : off + vs.length ≤ cs.length) : putC cs off vs = cs.take off ++ vs ++ cs.drop (off + vs.length) := by
  unfold putC
  split
  · rename_i v
    simp at h
    rw [List.set_eq_take_append_cons_drop, if_pos (by omega)]
    simp
  · split
    · rename_i h2
      obtain ⟨rfl, h3⟩ := h2
      simp [h3]
    · rfl

theorem putC_length {cs : List Value} {off : Nat} {vs : List Value} (h : off + vs.length ≤ cs.length) : (putC cs off vs).length = cs.length := by
  rw [putC_eq h]; simp; omega

/-- `n` elements, all zero. -/
def zeros (z : List Value) : Nat → List Value
  | 0 => []
  | n + 1 => z ++ zeros z n

def partC (T : TI) (cs : List Value) (off : Nat) : Option Value :=
  if T.desc.agg then some (.agg ((cs.drop off).take T.size).toArray) else cs[off]?

end Go.Sep
/- Each operation that calls no Go function: what it does in the machine is what it does on the canonical heap: memory. -/
namespace Go.Sep
open Go
set_option linter.unusedVariables false
set_option linter.unusedSimpArgs false

variable {P : Program}

/-- What a run of an operation must come to. -/
def Yield (n : Nat) (β : Names) (H : Heap) (w : World) (r : Result Next) (v : Value) (H' : Heap) (n' : Nat) : Prop :=
  ∃ u w' β', (r = .ok (.value u) w' ∨ (r = .ok .skip w' ∧ u = undef)) ∧ VT β' v u ∧ Sat β' H' w' ∧ n ≤ n' ∧ (∀ x, n' ≤ x → β' x = none) ∧ Grow n β H w β' H' w'

theorem Yield.pure {n : Nat} {β : Names} {H : Heap} {w : World} {v u : Value} (hs : Sat β H w) (hf : ∀ x, n ≤ x → β x = none) (hv : VT β v u) :
    Yield n β H w (.ok (.value u) w) v H n := ⟨u, w, β, .inl rfl, hv, hs, Nat.le_refl _, hf, Grow.refl _ _ hf⟩

theorem run_isAgg {t : TypeId} {d : TypeDesc} (hd : P.underlying t = some d) (w : World) : (isAgg t).run P w = .ok (TD.of d).agg w := by
  unfold isAgg
  rw [Sem.run_bind, run_underlying hd w]
  cases d <;> simp [TD.of, TD.agg]

theorem run_size {t : TypeId} {i : TypeInfo} (hi : P.info? t = some i) (w : World) : (sizeOf t).run P w = .ok i.size w := by
  simp [sizeOf, typeInfo, hi]

theorem run_info {t : TypeId} {i : TypeInfo} (hi : P.info? t = some i) (w : World) : (typeInfo t).run P w = .ok i w := by
  simp [typeInfo, hi]

theorem run_zero {t : TypeId} {i : TypeInfo} {z : Value} (hi : P.info? t = some i) (hz : i.zero = some z) (w : World) : (zeroValue t).run P w = .ok z w := by
  simp [zeroValue, typeInfo, hi, hz]

theorem addr_add (b o j : Nat) : (⟨b, o, none⟩ : Addr).add j = ⟨b, o + j, none⟩ := by unfold Addr.add; split <;> simp_all

/-- A block's cells in the machine. -/
theorem Sat.cells {β : Names} {H : Heap} {w : World} (hs : Sat β H w) {x : Nat} {ro : Bool} {cs : List Value} (hx : H x = some (.cells ro cs)) :
    ∃ l c el fz, β x = some l ∧ w.heap[l.blk]? = some (.cells c el fz) ∧ c.size = l.size ∧ l.base + cs.length ≤ l.size ∧
      (∀ i v, cs[i]? = some v → ∃ u, c[l.base + i]? = some u ∧ VC β v u) ∧ (ro = false → fz = (0, 0)) := by
  obtain ⟨l, hl, c, el, fz, h⟩ := hs.ok x _ hx
  exact ⟨l, c, el, fz, hl, h⟩

/-- A stretch of a block's cells as the machine reads it. -/
theorem read_stretch {β : Names} {w : World} {l : Loc} {c : Array Value} {el : TypeId} {fz : Nat × Nat} {cs : List Value}
    (hc : w.heap[l.blk]? = some (.cells c el fz)) (hv : ∀ i v, cs[i]? = some v → ∃ u, c[l.base + i]? = some u ∧ VC β v u) (off k : Nat) (hk : off + k ≤ cs.length) :
    ∃ us : List Value, us.length = k ∧ All2 (VC β) ((cs.drop off).take k) us ∧ (loadCells ⟨l.blk, l.base + off, none⟩ k).run P w = .ok us.toArray w := by
  refine ⟨((List.range k).map fun j => (c[l.base + off + j]?).getD undef), by simp, ?_, ?_⟩
  · refine All2.of_get (by simp; omega) ?_
    intro i v hi
    rw [List.getElem?_take] at hi
    split at hi
    · rename_i hik
      rw [List.getElem?_drop] at hi
      obtain ⟨u, hu, huv⟩ := hv _ _ hi
      refine ⟨u, ?_, huv⟩
      have e : l.base + (off + i) = l.base + off + i := by omega
      rw [e] at hu
      simp [hik, hu]
    · simp at hi
  · refine run_loadCells (P := P) w _ k (fun j => (c[l.base + off + j]?).getD undef) fun j hj => ?_
    have hlt : off + j < cs.length := by omega
    obtain ⟨u, hu, _⟩ := hv (off + j) cs[off + j] (List.getElem?_eq_getElem hlt)
    have e : l.base + (off + j) = l.base + off + j := by omega
    rw [e] at hu
    rw [addr_add]
    simp only [hu, Option.getD_some]
    simp [World.cell?, hc, hu]

def cLoad (P : Program) (t : TypeId) (H : Heap) : Value → Option Value
  | .pointer (some p) => match ti P t, H p.block with
    | some T, some (.cells _ cs) => loadC T cs p.off
    | _, _ => none
  | _ => none

theorem load_sound {t : TypeId} {n : Nat} {β : Names} {H : Heap} {w : World} (hs : Sat β H w) (hf : ∀ x, n ≤ x → β x = none) {p u v : Value}
    (hp : VT β p u) (h : cLoad P t H p = some v) : ∃ r, (Instr.loadAt t u).run P w = .ok r w ∧ VA β v r := by
  unfold cLoad at h
  split at h
  case h_2 => simp at h
  case h_1 p =>
    split at h
    case h_2 => simp at h
    case h_1 T ro cs hT hH =>
      obtain ⟨d, i, z, hd, hi, hz, e1, e2, e3, e4, _⟩ := ti_some hT
      obtain ⟨l, c, el, fz, hl, hc, hsz, hlen, hv, _⟩ := hs.cells hH
      obtain ⟨l', hl', _, rfl⟩ := hp
      rw [hl] at hl'
      obtain rfl := Option.some.inj hl'
      unfold loadC at h
      by_cases ha : T.desc.agg = true
      · rw [if_pos ha] at h
        split at h
        · rename_i hk
          obtain rfl := Option.some.inj h
          obtain ⟨us, _, hus, hrun⟩ := read_stretch (P := P) (β := β) hc hv p.off T.size hk
          refine ⟨.agg us.toArray, ?_, ⟨us.toArray, rfl, by simpa using hus⟩⟩
          rw [e1] at ha
          rw [e2] at hrun
          simp [Instr.loadAt, Instr.sureAddr, loadVar, run_isAgg hd, ha, run_size hi, hrun]
        · simp at h
      · rw [if_neg ha] at h
        obtain ⟨u, hu, huv⟩ := hv _ _ h
        refine ⟨u, ?_, VA.of_VC huv⟩
        rw [e1] at ha
        have hcell : w.cell? ⟨l.blk, l.base + p.off, none⟩ = some u := by simp [World.cell?, hc, hu]
        simp [Instr.loadAt, Instr.sureAddr, loadVar, run_isAgg hd, ha, hcell]

def cStore (P : Program) (t : TypeId) (H : Heap) : Value → Value → Option Heap
  | .pointer (some p), v => match ti P t, H p.block with
    | some T, some (.cells false cs) => if v.cells.size = T.size ∧ p.off + T.size ≤ cs.length then some (H.set p.block (.cells false (putC cs p.off v.cells.toList))) else none
    | _, _ => none
  | _, _ => none

theorem run_storeVar {t : TypeId} {i : TypeInfo} (hi : P.info? t = some i) {w : World} {g o : Nat} {cur : Array Value} {el : TypeId} (hg : w.heap[g]? = some (.cells cur el (0, 0)))
    {v : Value} (hv : v.cells.size = i.size) (hfit : o + v.cells.size ≤ cur.size) (h1 : ∀ u ∈ v.cells.toList, u.oneCell' = true) :
    (storeVar t ⟨g, o, none⟩ v).run P w = .ok () (w.setRow g (cur.toList.take o ++ v.cells.toList ++ cur.toList.drop (o + v.cells.size)).toArray) := by
  have h := run_storeCells_at P g o el v.cells.toList 0 cur w hg (by simpa using hfit) h1
  simp only [Nat.add_zero, Array.length_toList] at h
  simp [storeVar, run_size hi, hv, h]

/-- What is written into a stretch of a block. -/
theorem splice_get {β : Names} {cs vs us : List Value} {c : List Value} {base off : Nat} (hv : ∀ i v, cs[i]? = some v → ∃ u, c[base + i]? = some u ∧ VC β v u)
    (hu : All2 (VC β) vs us) (hlen : base + cs.length ≤ c.length) (hfit : off + vs.length ≤ cs.length) :
    ∀ i v, (cs.take off ++ vs ++ cs.drop (off + vs.length))[i]? = some v →
      ∃ u, (c.take (base + off) ++ us ++ c.drop (base + off + us.length))[base + i]? = some u ∧ VC β v u := by
  intro i v hi
  have hl := hu.length
  have hc1 : (c.take (base + off)).length = base + off := by simp; omega
  have hcs1 : (cs.take off).length = off := by simp; omega
  by_cases h1 : i < off
  · rw [List.append_assoc, List.getElem?_append_left (by omega), List.getElem?_take, if_pos h1] at hi
    obtain ⟨u, hu1, huv⟩ := hv _ _ hi
    refine ⟨u, ?_, huv⟩
    rw [List.append_assoc, List.getElem?_append_left (by omega), List.getElem?_take, if_pos (by omega)]
    exact hu1
  · by_cases h2 : i < off + vs.length
    · rw [List.append_assoc, List.getElem?_append_right (by omega), List.getElem?_append_left (by omega), hcs1] at hi
      obtain ⟨u, hu1, huv⟩ := hu.get _ _ hi
      refine ⟨u, ?_, huv⟩
      rw [List.append_assoc, List.getElem?_append_right (by omega), List.getElem?_append_left (by omega), hc1]
      rw [show base + i - (base + off) = i - off by omega]
      exact hu1
    · rw [List.getElem?_append_right (by simp; omega), List.getElem?_drop] at hi
      simp only [List.length_append, hcs1] at hi
      rw [show off + vs.length + (i - (off + vs.length)) = i by omega] at hi
      obtain ⟨u, hu1, huv⟩ := hv _ _ hi
      refine ⟨u, ?_, huv⟩
      rw [List.getElem?_append_right (by simp; omega), List.getElem?_drop]
      simp only [List.length_append, hc1]
      rw [show base + off + us.length + (base + i - (base + off + us.length)) = base + i by omega]
      exact hu1

theorem store_sound {t : TypeId} {n : Nat} {β : Names} {H H' : Heap} {w : World} (hs : Sat β H w) (hf : ∀ x, n ≤ x → β x = none) {p u v v' : Value}
    (hp : VT β p u) (hv : VA β v v') (h : cStore P t H p v = some H') : ∃ w', (Instr.storeAt t u v').run P w = .ok () w' ∧ Sat β H' w' ∧ Grow n β H w β H' w' := by
  obtain ⟨p, rfl⟩ : ∃ q, p = .pointer (some q) := by
    cases p with
    | pointer q => cases q with
      | some q => exact ⟨q, rfl⟩
      | none => simp [cStore] at h
    | _ => simp [cStore] at h
  simp only [cStore] at h
  split at h
  case h_2 => simp at h
  case h_1 T cs hT hH =>
    split at h
    case isFalse => simp at h
    case isTrue hk =>
      obtain rfl := Option.some.inj h
      obtain ⟨hk1, hk2⟩ := hk
      obtain ⟨d, i, z, hd, hi, hz, e1, e2, e3, e4, _⟩ := ti_some hT
      obtain ⟨l, c, el, fz, hl, hc, hsz, hlen, hcv, hfz⟩ := hs.cells hH
      have := hfz rfl
      subst this
      obtain ⟨l', hl', _, rfl⟩ := hp
      rw [hl] at hl'
      obtain rfl := Option.some.inj hl'
      have hcells := hv.cells
      have hsize : v'.cells.size = i.size := by have := hcells.length; simp at this; omega
      have hrun := run_storeVar (P := P) hi hc (o := l.base + p.off) hsize (by omega) hcells.oneCell
      refine ⟨_, by simp only [Instr.storeAt, Instr.sureAddr, Sem.run_bind, Sem.run_pure, Result.andThen_ok]; exact hrun, ?_⟩
      have hfit : p.off + v.cells.toList.length ≤ cs.length := by simp; omega
      refine write_block hs hH hl ?_ ?_ ?_ n hf
      · simp; omega
      · rw [putC_length hfit]; exact hlen
      · rw [putC_eq hfit]
        intro i v hi
        have hg := splice_get (β := β) (c := c.toList) (base := l.base) (off := p.off) (fun i v hi => by simpa using hcv i v hi) hcells (by simp; omega) hfit i v hi
        obtain ⟨u, hu, huv⟩ := hg
        simp only [Array.length_toList] at hu
        exact ⟨u, by simpa using hu, huv⟩

/-! ### New variables -/

theorem newRow_sound {n : Nat} {β : Names} {H : Heap} {w : World} (hs : Sat β H w) (hf : ∀ x, n ≤ x → β x = none) {cs : List Value} {c : Array Value} (el : TypeId)
    (hl : cs.length ≤ c.size) (hc : ∀ (i : Nat) (v : Value), cs[i]? = some v → ∃ u, c[i]? = some u ∧ VC β v u) :
    ∃ β', (newRow el c).run P w = .ok ⟨w.heap.size, 0, none⟩ (w.alloc (.cells c el)) ∧ β' n = some ⟨w.heap.size, 0, c.size⟩ ∧ β.le β' ∧
      Sat β' (H.set n (.cells false cs)) (w.alloc (.cells c el)) ∧ (∀ x, n + 1 ≤ x → β' x = none) ∧ Grow n β H w β' (H.set n (.cells false cs)) (w.alloc (.cells c el)) := by
  have hb : BlkOk β (w.alloc (.cells c el)) ⟨w.heap.size, 0, c.size⟩ (.cells false cs) :=
    ⟨c, el, (0, 0), heap_alloc_new, rfl, by simpa using hl, fun i v hi => by simpa using hc i v hi, fun _ => rfl⟩
  obtain ⟨h1, h2, h3⟩ := new_block hs hf hb
  refine ⟨β.set n ⟨w.heap.size, 0, c.size⟩, ?_, Names.set_same _ _ _, Names.le_set (hf n (Nat.le_refl _)), h1, h2, h3⟩
  rfl

/-- A pointer to the new block. -/
theorem newVar_sound {n : Nat} {β : Names} {H : Heap} {w : World} (hs : Sat β H w) (hf : ∀ x, n ≤ x → β x = none) {v u : Value} (t : TypeId) (hv : VA β v u) :
    ∃ β' w' a, (newVar t u).run P w = .ok a w' ∧ VT β' (.pointer (some ⟨n, 0, none⟩)) (.pointer (some a)) ∧ Sat β' (H.set n (.cells false v.cells.toList)) w' ∧
      (∀ x, n + 1 ≤ x → β' x = none) ∧ Grow n β H w β' (H.set n (.cells false v.cells.toList)) w' := by
  have hc := hv.cells
  obtain ⟨β', hrun, hn, hle, h1, h2, h3⟩ := newRow_sound (P := P) hs hf (cs := v.cells.toList) (c := u.cells) t (by have := hc.length; simp at this; simp; omega) (fun i v hi => by
    obtain ⟨u, hu, huv⟩ := hc.get i v hi; exact ⟨u, by simpa using hu, huv⟩)
  exact ⟨β', _, _, hrun, ⟨_, hn, rfl, by simp⟩, h1, h2, h3⟩

end Go.Sep
/- Operations that neither read nor write memory. -/
namespace Go.Sep
open Go
set_option linter.unusedVariables false
set_option linter.unusedSimpArgs false

variable {P : Program}

/-- A run that leaves the world alone and comes to a value that fits. -/
def Pure (P : Program) (β : Names) (w : World) (r : Sem Value) (v : Value) : Prop := ∃ u, r.run P w = .ok u w ∧ VT β v u

/-! ### Addresses -/

def cFieldAddr (P : Program) (s : TypeId) (f : Nat) : Value → Option Value
  | .pointer (some p) => match ti P s with
    | some T => match T.desc with
      | .struct fs => match fs[f]? with
        | some (off, ft) => match ti P ft with
          | some F => if F.size = 0 then none else some (.pointer (some ⟨p.block, p.off + off, none⟩))
          | none => none
        | none => none
      | _ => none
    | none => none
  | _ => none

theorem TD.of_struct {d : TypeDesc} {fs : List (Nat × TypeId)} (h : TD.of d = .struct fs) : ∃ gs, d = .struct gs ∧ fs = gs.toList.map fun f => (f.offset, f.type) := by
  cases d <;> simp [TD.of] at h
  exact ⟨_, rfl, h.symm⟩
theorem TD.of_array {d : TypeDesc} {n : Nat} {e : TypeId} (h : TD.of d = .array n e) : d = .array n e := by
  cases d <;> simp [TD.of] at h
  obtain ⟨rfl, rfl⟩ := h; rfl
theorem TD.of_slice {d : TypeDesc} {e : TypeId} (h : TD.of d = .slice e) : d = .slice e := by
  cases d <;> simp [TD.of] at h
  subst h; rfl
theorem TD.of_int {d : TypeDesc} {k : IntKind} (h : TD.of d = .int k) : d = .int k := by
  cases d <;> simp [TD.of] at h
  subst h; rfl
theorem TD.of_bool {d : TypeDesc} (h : TD.of d = .bool) : d = .bool := by
  cases d <;> simp [TD.of] at h
  rfl
theorem TD.of_map {d : TypeDesc} {k e : TypeId} (h : TD.of d = .map k e) : d = .map k e := by
  cases d <;> simp [TD.of] at h
  obtain ⟨rfl, rfl⟩ := h; rfl

theorem pointer_inv {β : Names} {p : Addr} {u : Value} (h : VT β (.pointer (some p)) u) : ∃ l, β p.block = some l ∧ u = .pointer (some ⟨l.blk, l.base + p.off, none⟩) := by
  obtain ⟨l, hl, _, rfl⟩ := h; exact ⟨l, hl, rfl⟩

theorem pointer_mk {β : Names} {b o : Nat} {l : Loc} (hl : β b = some l) {k : Nat} (h : k = l.base + o) : VT β (.pointer (some ⟨b, o, none⟩)) (.pointer (some ⟨l.blk, k, none⟩)) := by
  subst h; exact ⟨l, hl, rfl, rfl⟩

theorem fieldAddr_sound {s : TypeId} {f : Nat} {β : Names} {w : World} {p u v : Value} (hp : VT β p u) (h : cFieldAddr P s f p = some v) :
    Pure P β w (Instr.fieldAt s u f) v := by
  obtain ⟨p, rfl⟩ : ∃ q, p = .pointer (some q) := by
    cases p with
    | pointer q => cases q with
      | some q => exact ⟨q, rfl⟩
      | none => simp [cFieldAddr] at h
    | _ => simp [cFieldAddr] at h
  obtain ⟨l, hl, rfl⟩ := pointer_inv hp
  simp only [cFieldAddr] at h
  split at h
  case h_2 => simp at h
  case h_1 T hT =>
    split at h
    case h_2 => simp at h
    case h_1 fs hfs =>
      split at h
      case h_2 => simp at h
      case h_1 off ft hff =>
        split at h
        case h_2 => simp at h
        case h_1 F hF =>
          split at h
          case isTrue => simp at h
          case isFalse hsz =>
            obtain rfl := Option.some.inj h
            obtain ⟨d, i, z, hd, hi, hz, e1, e2, e3, e4, _⟩ := ti_some hT
            obtain ⟨d', i', z', hd', hi', hz', e1', e2', e3', e4', _⟩ := ti_some hF
            obtain ⟨gs, rfl, rfl⟩ := TD.of_struct (e1.symm.trans hfs)
            simp only [List.getElem?_map, Option.map_eq_some_iff] at hff
            obtain ⟨g, hg, hge⟩ := hff
            injection hge with hoff hft
            subst hoff; subst hft
            have hg' : gs[f]? = some g := by simpa using hg
            rw [e2'] at hsz
            refine ⟨.pointer (some ⟨l.blk, l.base + p.off + g.offset, none⟩), ?_, pointer_mk hl (by omega)⟩
            simp [Instr.fieldAt, run_underlying hd, hg', Instr.sureAddr, fieldPlace, run_size hi', hsz, addr_add]

def cPart (P : Program) (t : TypeId) (cs : List Value) (off : Nat) : Option Value :=
  match ti P t with
  | some T => if T.desc.agg then some (.agg ((cs.drop off).take T.size).toArray) else cs[off]?
  | none => none

theorem part_sound {t : TypeId} {β : Names} {w : World} {cs : List Value} {c : Array Value} {off : Nat} {v : Value} (hc : All2 (VC β) cs c.toList)
    (h : cPart P t cs off = some v) : ∃ u, (part t c off).run P w = .ok u w ∧ VA β v u := by
  unfold cPart at h
  split at h
  case h_2 => simp at h
  case h_1 T hT =>
    obtain ⟨d, i, z, hd, hi, hz, e1, e2, e3, e4, _⟩ := ti_some hT
    by_cases ha : T.desc.agg = true
    · rw [if_pos ha] at h
      obtain rfl := Option.some.inj h
      rw [e1] at ha
      refine ⟨.agg (c.extract off (off + i.size)), by simp [part, run_isAgg hd, ha, run_size hi], ?_⟩
      refine ⟨_, rfl, ?_⟩
      have := (hc.drop off).take T.size
      rw [e2] at this
      simpa [Array.toList_extract, List.extract, e2] using this
    · rw [if_neg ha] at h
      rw [e1] at ha
      obtain ⟨u, hu, huv⟩ := hc.get _ _ h
      have hu' : c[off]? = some u := by simpa using hu
      exact ⟨u, by simp [part, run_isAgg hd, ha, hu'], VA.of_VC huv⟩

theorem agg_inv {β : Names} {cs : Array Value} {u : Value} (h : VT β (.agg cs) u) : ∃ c, u = .agg c ∧ All2 (VC β) cs.toList c.toList := h

def cField (P : Program) (t : TypeId) (f : Nat) : Value → Option Value
  | .agg cs => match ti P t with
    | some T => match T.desc with
      | .struct fs => match fs[f]? with
        | some (off, ft) => cPart P ft cs.toList off
        | none => none
      | _ => none
    | none => none
  | _ => none

theorem field_sound {t : TypeId} {f : Nat} {β : Names} {w : World} {x u v : Value} (hx : VT β x u) (h : cField P t f x = some v) : Pure P β w (Instr.field t u f) v := by
  obtain ⟨cs, rfl⟩ : ∃ cs, x = .agg cs := by cases x <;> simp [cField] at h; exact ⟨_, rfl⟩
  obtain ⟨c, rfl, hc⟩ := agg_inv hx
  simp only [cField] at h
  split at h
  case h_2 => simp at h
  case h_1 T hT =>
    split at h
    case h_2 => simp at h
    case h_1 fs hfs =>
      split at h
      case h_2 => simp at h
      case h_1 off ft hff =>
        obtain ⟨d, i, z, hd, hi, hz, e1, e2, e3, e4, _⟩ := ti_some hT
        obtain ⟨gs, rfl, rfl⟩ := TD.of_struct (e1.symm.trans hfs)
        simp only [List.getElem?_map, Option.map_eq_some_iff] at hff
        obtain ⟨g, hg, hge⟩ := hff
        injection hge with hoff hft
        subst hoff; subst hft
        have hg' : gs[f]? = some g := by simpa using hg
        obtain ⟨r, hr, hrv⟩ := part_sound (P := P) (w := w) hc h
        exact ⟨r, by simp [Instr.field, run_underlying hd, hg', asAgg, hr], VT.of_VA hrv⟩

/-! ### Indices -/

def cIndexAddr (P : Program) (t : TypeId) : Value → Value → Option Value
  | x, .int _ i => match ti P t with
    | some T => match T.desc, x with
      | .array n e, .pointer (some p) => match ti P e with
        | some E => if 0 ≤ i ∧ i < (n : Int) then some (.pointer (some ⟨p.block, p.off + i.toNat * E.size, none⟩)) else none
        | none => none
      | .slice e, .slice (some p) n _ => match ti P e with
        | some E => if 0 ≤ i ∧ i < (n : Int) then some (.pointer (some ⟨p.block, p.off + i.toNat * E.size, none⟩)) else none
        | none => none
      | _, _ => none
    | none => none
  | _, _ => none

theorem int_inv {β : Names} {k : IntKind} {i : Int} {u : Value} (h : VT β (.int k i) u) : u = .int k i := h.symm
theorem bool_inv {β : Names} {b : Bool} {u : Value} (h : VT β (.bool b) u) : u = .bool b := h.symm

theorem indexAddr_sound {t : TypeId} {β : Names} {w : World} {x i u j v : Value} (hx : VT β x u) (hi : VT β i j) (h : cIndexAddr P t x i = some v) :
    Pure P β w (Instr.indexAt t u j) v := by
  obtain ⟨k, i, rfl⟩ : ∃ k q, i = .int k q := by cases i <;> simp [cIndexAddr] at h; exact ⟨_, _, rfl⟩
  obtain rfl := int_inv hi
  simp only [cIndexAddr] at h
  split at h
  case h_2 => simp at h
  case h_1 T hT =>
    obtain ⟨d, ii, z, hd, hii, hz, e1, e2, e3, e4, _⟩ := ti_some hT
    split at h
    case h_3 => simp at h
    case h_1 n e p hT1 =>
      split at h
      case h_2 => simp at h
      case h_1 E hE =>
        split at h
        case isFalse => simp at h
        case isTrue hb =>
          obtain rfl := Option.some.inj h
          obtain ⟨d', i', z', hd', hi', hz', e1', e2', e3', e4', _⟩ := ti_some hE
          have := TD.of_array (e1.symm.trans hT1)
          subst this
          obtain ⟨l, hl, rfl⟩ := pointer_inv hx
          refine ⟨.pointer (some ⟨l.blk, l.base + p.off + i.toNat * i'.size, none⟩), ?_, pointer_mk hl (by rw [e2']; omega)⟩
          simp [Instr.indexAt, asIntOf, run_underlying hd, Instr.sureAddr, hb.1, hb.2, run_size hi', addr_add]
    case h_2 e p n m hT1 =>
      split at h
      case h_2 => simp at h
      case h_1 E hE =>
        split at h
        case isFalse => simp at h
        case isTrue hb =>
          obtain rfl := Option.some.inj h
          obtain ⟨d', i', z', hd', hi', hz', e1', e2', e3', e4', _⟩ := ti_some hE
          have := TD.of_slice (e1.symm.trans hT1)
          subst this
          obtain ⟨l, c, hl, _, _, _, rfl⟩ := hx
          refine ⟨.pointer (some ⟨l.blk, l.base + p.off + i.toNat * i'.size, none⟩), ?_, pointer_mk hl (by rw [e2']; omega)⟩
          simp [Instr.indexAt, asIntOf, run_underlying hd, Instr.sureAddr, hb.1, hb.2, run_size hi', addr_add]

def cIndex (P : Program) (t : TypeId) : Value → Value → Option Value
  | .agg cs, .int _ i => match ti P t with
    | some T => match T.desc with
      | .array n e => match ti P e with
        | some E => if 0 ≤ i ∧ i < (n : Int) then cPart P e cs.toList (i.toNat * E.size) else none
        | none => none
      | _ => none
    | none => none
  | _, _ => none

theorem index_sound {t : TypeId} {β : Names} {w : World} {x i u j v : Value} (hx : VT β x u) (hi : VT β i j) (h : cIndex P t x i = some v) :
    Pure P β w (Instr.index t u j) v := by
  obtain ⟨cs, rfl⟩ : ∃ cs, x = .agg cs := by cases x <;> simp [cIndex] at h; exact ⟨_, rfl⟩
  obtain ⟨k, i, rfl⟩ : ∃ k q, i = .int k q := by cases i <;> simp [cIndex] at h; exact ⟨_, _, rfl⟩
  obtain rfl := int_inv hi
  obtain ⟨c, rfl, hc⟩ := agg_inv hx
  simp only [cIndex] at h
  split at h
  case h_2 => simp at h
  case h_1 T hT =>
    obtain ⟨d, ii, z, hd, hii, hz, e1, e2, e3, e4, _⟩ := ti_some hT
    split at h
    case h_2 => simp at h
    case h_1 n e hT1 =>
      split at h
      case h_2 => simp at h
      case h_1 E hE =>
        split at h
        case isFalse => simp at h
        case isTrue hb =>
          obtain ⟨d', i', z', hd', hi', hz', e1', e2', e3', e4', _⟩ := ti_some hE
          have := TD.of_array (e1.symm.trans hT1)
          subst this
          rw [e2'] at h
          obtain ⟨r, hr, hrv⟩ := part_sound (P := P) (w := w) hc h
          exact ⟨r, by simp [Instr.index, asIntOf, run_underlying hd, hb.1, hb.2, run_size hi', hr], VT.of_VA hrv⟩

/-! ### Tuples -/

def cExtract (ix : Nat) : Value → Option Value
  | .tuple vs => vs[ix]?
  | _ => none

theorem extract_sound {ix : Nat} {β : Names} {w : World} {x u v : Value} (hx : VT β x u) (h : cExtract ix x = some v) : Pure P β w (Instr.extract u ix) v := by
  obtain ⟨cs, rfl⟩ : ∃ cs, x = .tuple cs := by cases x <;> simp [cExtract] at h; exact ⟨_, rfl⟩
  obtain ⟨c, rfl, hc⟩ := hx
  simp only [cExtract] at h
  obtain ⟨r, hr, hrv⟩ := hc.get ix v (by simpa using h)
  have hr' : c[ix]? = some r := by simpa using hr
  exact ⟨r, by simp [Instr.extract, hr'], VT.of_VA hrv⟩

end Go.Sep
/- Operations on numbers; values built out of parts. -/
namespace Go.Sep
open Go
set_option linter.unusedVariables false
set_option linter.unusedSimpArgs false

variable {P : Program}

/-! ### Numbers and bools -/

def cInt (op : BinOp) (k : IntKind) (x y : Int) : Option Value :=
  match op with
  | .add => some (.int k (k.wrap (x + y)))
  | .sub => some (.int k (k.wrap (x - y)))
  | .mul => some (.int k (k.wrap (x * y)))
  | .quo => if y = 0 then none else some (.int k (k.wrap (x.tdiv y)))
  | .rem => if y = 0 then none else some (.int k (x.tmod y))
  | .and => some (.int k (k.wrap (BitVec.ofInt k.bits x &&& BitVec.ofInt k.bits y).toNat))
  | .or => some (.int k (k.wrap (BitVec.ofInt k.bits x ||| BitVec.ofInt k.bits y).toNat))
  | .xor => some (.int k (k.wrap (BitVec.ofInt k.bits x ^^^ BitVec.ofInt k.bits y).toNat))
  | .andNot => some (.int k (k.wrap (BitVec.ofInt k.bits x &&& ~~~ BitVec.ofInt k.bits y).toNat))
  | .eql => some (.bool (x == y))
  | .neq => some (.bool (x != y))
  | .lss => some (.bool (x < y))
  | .leq => some (.bool (x ≤ y))
  | .gtr => some (.bool (x > y))
  | .geq => some (.bool (x ≥ y))
  | _ => none

def cShift (op : BinOp) (k : IntKind) (x y : Int) : Option Value :=
  match op with
  | .shl => if y < 0 then none else some (.int k (k.wrap (x * 2 ^ min y.toNat k.bits)))
  | .shr => if y < 0 then none else some (.int k (x.fdiv (2 ^ min y.toNat k.bits)))
  | _ => none

/-- Two rows of whole numbers of one kind are alike. -/
def sameInts : List Value → List Value → Option Bool
  | [], [] => some true
  | .int k a :: l, .int k' b :: m => if k = k' then (if a = b then sameInts l m else if l.length = m.length then some false else none) else none
  | _, _ => none

def cEq (P : Program) (t : TypeId) : Value → Value → Option Bool
  | .bool a, .bool b => match ti P t with
    | some T => match T.desc with
      | .bool => some (a == b)
      | _ => none
    | none => none
  | .agg xs, .agg ys => match ti P t with
    | some T => match T.desc with
      | .array n e => match ti P e with
        | some E => match E.desc with
          | .int k => if T.guard = false ∧ E.size = 1 ∧ xs.size = n ∧ ys.size = n then sameInts xs.toList ys.toList else none
          | _ => none
        | none => none
      | _ => none
    | none => none
  | .slice (some _) _ _, .slice none _ 0 => match ti P t with
    | some T => match T.desc with
      | .slice _ => some false
      | _ => none
    | none => none
  | _, _ => none

def cBin (P : Program) (op : BinOp) (t : TypeId) (x y : Value) : Option Value :=
  match x, y with
  | .int k a, .int k' b => match op with
    | .shl | .shr => cShift op k a b
    | _ => if k = k' then cInt op k a b else none
  | x, y => match op with
    | .eql => (cEq P t x y).map .bool
    | .neq => (cEq P t x y).map fun b => .bool !b
    | _ => none

theorem bin_int {β : Names} {w : World} {op : BinOp} {t : TypeId} {k k' : IntKind} {a b : Int} {v : Value} (h : cBin P op t (.int k a) (.int k' b) = some v) :
    (binOp op t (.int k a) (.int k' b)).run P w = .ok v w ∧ VT β v v := by
  have hT : ∀ k i, VT β (.int k i) (.int k i) := fun k i => rfl
  have hB : ∀ b, VT β (.bool b) (.bool b) := fun b => rfl
  unfold cBin at h
  cases op <;> simp only [cShift, cInt] at h <;> (repeat' split at h) <;> simp at h <;> subst h <;>
    first
      | (have hnb : ¬ b < 0 := by omega
         refine ⟨?_, hT _ _⟩
         simp only [binOp]
         unfold Op.shift; rw [if_neg hnb]; rfl)
      | (subst_vars; refine ⟨?_, hT _ _⟩; simp_all [binOp, Op.intArith, Op.intDiv, Op.intBits, Op.shift]; done)
      | (subst_vars; refine ⟨?_, hB _⟩; simp_all [binOp, Op.intCmp]; done)

theorem run_eqItems_ints {d : Nat} {e : TypeId} {k0 : IntKind} (hu : P.underlying e = some (.int k0)) {i : TypeInfo} (hi : P.info? e = some i) (hsz : i.size = 1) (w : World) :
    ∀ (l m xs ys : List Value) (is : List Nat) (off : Nat) (b : Bool), sameInts l m = some b → is = List.range' off l.length →
      xs.drop off = l → ys.drop off = m → l.length = m.length → (Op.eqItems (d + 1) e (P.cellsOf e) xs.toArray ys.toArray is).run P w = .ok b w := by
  have hce : P.cellsOf e = 1 := by simp [Program.cellsOf, hi, hsz]
  intro l
  induction l with
  | nil =>
    intro m xs ys is off b hb his hx hy hl
    cases m with
    | nil => simp [sameInts] at hb; subst hb; simp at his; subst his; simp [Op.eqItems]
    | cons _ _ => simp at hl
  | cons v l ih =>
    intro m xs ys is off b hb his hx hy hl
    cases m with
    | nil => simp at hl
    | cons u m =>
      obtain ⟨k, a, k', c, rfl, rfl⟩ : ∃ k a k' c, v = .int k a ∧ u = .int k' c := by
        cases v <;> cases u <;> simp [sameInts] at hb
        exact ⟨_, _, _, _, rfl, rfl⟩
      simp only [sameInts] at hb
      split at hb
      case isFalse => simp at hb
      case isTrue hk =>
        subst hk
        have hxo : xs[off]? = some (.int k a) := by have := congrArg (·[0]?) hx; simpa [List.getElem?_drop] using this
        have hyo : ys[off]? = some (.int k c) := by have := congrArg (·[0]?) hy; simpa [List.getElem?_drop] using this
        have hagg : ∀ w, (isAgg e).run P w = .ok false w := fun w => by rw [run_isAgg hu]; rfl
        have p1 : (part e xs.toArray off).run P w = .ok (.int k a) w := by simp [part, hagg, hxo]
        have p2 : (part e ys.toArray off).run P w = .ok (.int k c) w := by simp [part, hagg, hyo]
        have p3 : (Op.equalIn (d + 1) e (.int k a) (.int k c)).run P w = .ok (a == c) w := by simp [Op.equalIn, run_underlying hu]
        subst his
        simp only [List.length_cons, List.range'_succ, Op.eqItems, Sem.run_bind, hce, Nat.mul_one, p1, p2, p3, Result.andThen_ok]
        by_cases hac : a = c
        · subst hac
          simp only [if_true] at hb
          have hx' : xs.drop (off + 1) = l := by rw [← List.drop_drop, hx]; rfl
          have hy' : ys.drop (off + 1) = m := by rw [← List.drop_drop, hy]; rfl
          have := ih m xs ys (List.range' (off + 1) l.length) (off + 1) b hb rfl hx' hy' (by simpa using hl)
          rw [hce] at this
          simpa using this
        · rw [if_neg hac] at hb
          split at hb <;> simp at hb
          subst hb
          simp [hac]

theorem sameInts_cells {β : Names} : ∀ {l m l' m' : List Value} {b : Bool}, sameInts l m = some b → All2 (VC β) l l' → All2 (VC β) m m' →
    sameInts l' m' = some b
  | [], [], [], [], b, h, _, _ => h
  | [], [], _ :: _, _, _, _, hl, _ => hl.elim
  | [], [], [], _ :: _, _, _, _, hm => hm.elim
  | [], _ :: _, _, _, b, h, _, _ => by simp [sameInts] at h
  | v :: l, [], _, _, b, h, _, _ => by cases v <;> simp [sameInts] at h
  | v :: l, u :: m, [], _, b, h, hl, hm => hl.elim
  | v :: l, u :: m, _ :: _, [], b, h, hl, hm => hm.elim
  | v :: l, u :: m, v' :: l', u' :: m', b, h, hl, hm => by
    obtain ⟨k, a, k', c, rfl, rfl⟩ : ∃ k a k' c, v = .int k a ∧ u = .int k' c := by
      cases v <;> cases u <;> simp [sameInts] at h
      exact ⟨_, _, _, _, rfl, rfl⟩
    have e1 : v' = .int k a := (show VC β (.int k a) v' from hl.1).symm
    have e2 : u' = .int k' c := (show VC β (.int k' c) u' from hm.1).symm
    subst e1; subst e2
    simp only [sameInts] at h ⊢
    split at h
    · rename_i hk
      rw [if_pos hk]
      split at h
      · rename_i hac
        rw [if_pos hac]
        exact sameInts_cells h hl.2 hm.2
      · rename_i hac
        rw [if_neg hac, ← All2.length hl.2, ← All2.length hm.2]
        exact h
    · simp at h

theorem sameInts_length : ∀ {l m : List Value} {b : Bool}, sameInts l m = some b → l.length = m.length
  | [], [], _, _ => rfl
  | [], _ :: _, b, h => by simp [sameInts] at h
  | v :: l, [], b, h => by cases v <;> simp [sameInts] at h
  | v :: l, u :: m, b, h => by
    obtain ⟨k, a, k', c, rfl, rfl⟩ : ∃ k a k' c, v = .int k a ∧ u = .int k' c := by
      cases v <;> cases u <;> simp [sameInts] at h
      exact ⟨_, _, _, _, rfl, rfl⟩
    simp only [sameInts] at h
    split at h
    · split at h
      · simp [sameInts_length h]
      · split at h
        · simpa using ‹l.length = m.length›
        · simp at h
    · simp at h

theorem run_equalIn_nil (d : Nat) {t e : TypeId} (hd : P.underlying t = some (.slice e)) (w : World) {a : Addr} {n c m k : Nat} : (Op.equalIn (d + 1) t (.slice (some a) n c) (.slice none m k)).run P w = .ok false w := by
  simp [Op.equalIn, run_underlying hd]
theorem eq_sound {t : TypeId} {β : Names} {w : World} {x y u r : Value} {b : Bool} (hx : VT β x u) (hy : VT β y r) (h : cEq P t x y = some b) :
    (Op.equal t u r).run P w = .ok b w ∧ (∀ op X Y, (eqGuard op t X Y u r).run P w = .ok () w) := by
  unfold cEq at h
  split at h
  case h_4 => simp at h
  case h_3 a n e m =>
    obtain ⟨l, c, _, _, _, _, rfl⟩ := hx
    obtain ⟨_, ⟨_, rfl⟩ | ⟨e1, _⟩ | ⟨e1, _⟩⟩ := hy
    case inr.inl => simp at e1
    case inr.inr => simp at e1
    split at h
    case h_2 => simp at h
    case h_1 T hT =>
      split at h
      case h_2 => simp at h
      case h_1 el hd1 =>
        obtain ⟨d, ii, z, hd, hii, hz, e1, e2, e3, e4, e5⟩ := ti_some hT
        have := TD.of_slice (e1.symm.trans hd1)
        subst this
        simp at h
        subst h
        refine ⟨?_, fun op X Y => by cases op <;> rfl⟩
        unfold Op.equal
        exact run_equalIn_nil 9999 hd w
  case h_1 a c =>
    obtain rfl := bool_inv hx
    obtain rfl := bool_inv hy
    split at h
    case h_2 => simp at h
    case h_1 T hT =>
      split at h
      case h_2 => simp at h
      case h_1 hd1 =>
        obtain ⟨d, ii, z, hd, hii, hz, e1, e2, e3, e4, e5⟩ := ti_some hT
        have := TD.of_bool (e1.symm.trans hd1)
        subst this
        simp at h
        subst h
        exact ⟨run_equal_bool w t a c hd, fun op X Y => by cases op <;> rfl⟩
  case h_2 xs ys =>
    obtain ⟨xs', rfl, hxs⟩ := agg_inv hx
    obtain ⟨ys', rfl, hys⟩ := agg_inv hy
    split at h
    case h_2 => simp at h
    case h_1 T hT =>
      split at h
      case h_2 => simp at h
      case h_1 n e hd1 =>
        split at h
        case h_2 => simp at h
        case h_1 E hE =>
          split at h
          case h_2 => simp at h
          case h_1 k hE1 =>
            split at h
            case isFalse => simp at h
            case isTrue hh =>
              obtain ⟨h1, h2, h3, h4⟩ := hh
              obtain ⟨d, ii, z, hd, hii, hz, e1, e2, e3, e4, e5⟩ := ti_some hT
              obtain ⟨d', i', z', hd', hi', hz', e1', e2', e3', e4', _⟩ := ti_some hE
              have := TD.of_array (e1.symm.trans hd1)
              subst this
              have := TD.of_int (e1'.symm.trans hE1)
              subst this
              have hsame := sameInts_cells h hxs hys
              have hl := sameInts_length hsame
              have hlx : xs'.toList.length = n := by rw [← hxs.length]; simpa using h3
              refine ⟨?_, fun op X Y => ?_⟩
              · unfold Op.equal
                show (Op.equalIn (9999 + 1) _ _ _).run P w = _
                rw [run_equalIn_array _ _ _ _ hd hi']
                have := run_eqItems_ints (P := P) (d := 9998) hd' hi' (by omega) w xs'.toList ys'.toList xs'.toList ys'.toList (List.range n) 0 b hsame
                  (by rw [hlx, List.range_eq_range']) (by simp) (by simp) hl
                simpa using this
              · rw [h1] at e5
                cases op <;> first | rfl | simp [eqGuard, ← e5]

theorem bin_sound {op : BinOp} {t : TypeId} {β : Names} {w : World} {x y u r v : Value} {X Y : Operand} (hx : VT β x u) (hy : VT β y r) (h : cBin P op t x y = some v) :
    Pure P β w (do eqGuard op t X Y u r; binOp op t u r) v := by
  by_cases hi : ∃ k a k' b, x = .int k a ∧ y = .int k' b
  · obtain ⟨k, a, k', b, rfl, rfl⟩ := hi
    obtain rfl := int_inv hx
    obtain rfl := int_inv hy
    obtain ⟨h1, h2⟩ := bin_int (β := β) (w := w) h
    refine ⟨v, ?_, h2⟩
    have hg : (eqGuard op t X Y (.int k a) (.int k' b)).run P w = .ok () w := by cases op <;> rfl
    simp only [Sem.run_bind, hg, Result.andThen_ok, h1]
  · have hc : (op = .eql ∧ ∃ b, cEq P t x y = some b ∧ v = .bool b) ∨ (op = .neq ∧ ∃ b, cEq P t x y = some b ∧ v = .bool !b) := by
      unfold cBin at h
      split at h
      · rename_i k a k' b
        exact absurd ⟨_, _, _, _, rfl, rfl⟩ hi
      · split at h
        · simp only [Option.map_eq_some_iff] at h
          obtain ⟨b, h1, h2⟩ := h; exact .inl ⟨rfl, b, h1, h2.symm⟩
        · simp only [Option.map_eq_some_iff] at h
          obtain ⟨b, h1, h2⟩ := h; exact .inr ⟨rfl, b, h1, h2.symm⟩
        · simp at h
    have shape : ∀ b, cEq P t x y = some b → (∃ p q, u = .bool p ∧ r = .bool q) ∨ (∃ p q, u = .agg p ∧ r = .agg q) ∨ (∃ a n c m e, u = .slice a n c ∧ r = .slice none m e) := by
      intro b hb
      unfold cEq at hb
      split at hb
      case h_4 => simp at hb
      case h_3 a n e m =>
        obtain ⟨l, c, _, _, _, _, rfl⟩ := hx
        obtain ⟨_, ⟨_, rfl⟩ | ⟨e1, _⟩ | ⟨e1, _⟩⟩ := hy
        · exact .inr (.inr ⟨_, _, _, _, _, rfl, rfl⟩)
        · simp at e1
        · simp at e1
      case h_1 a c => exact .inl ⟨a, c, bool_inv hx, bool_inv hy⟩
      case h_2 xs ys =>
        obtain ⟨xs', rfl, _⟩ := agg_inv hx
        obtain ⟨ys', rfl, _⟩ := agg_inv hy
        exact .inr (.inl ⟨_, _, rfl, rfl⟩)
    rcases hc with ⟨rfl, b, hb, rfl⟩ | ⟨rfl, b, hb, rfl⟩
    all_goals
      obtain ⟨h1, h2⟩ := eq_sound (P := P) (w := w) hx hy hb
      refine ⟨_, ?_, rfl⟩
      simp only [Sem.run_bind, h2, Result.andThen_ok]
      rcases shape b hb with ⟨p, q, rfl, rfl⟩ | ⟨p, q, rfl, rfl⟩ | ⟨_, _, _, _, _, rfl, rfl⟩ <;> simp [binOp, h1]

def cUn (op : UnOp) : Value → Option Value
  | .int k n => match op with
    | .neg => some (.int k (k.wrap (0 - n)))
    | .xor => some (.int k (k.wrap (BitVec.ofInt k.bits (if k.signed then -1 else k.max) ^^^ BitVec.ofInt k.bits n).toNat))
    | _ => none
  | .bool b => match op with
    | .not => some (.bool !b)
    | _ => none
  | _ => none

theorem un_sound {op : UnOp} {β : Names} {w : World} {x u v : Value} (hx : VT β x u) (h : cUn op x = some v) : Pure P β w (Op.unary op u) v := by
  unfold cUn at h
  split at h
  · obtain rfl := int_inv hx
    split at h <;> simp at h <;> subst h
    · exact ⟨_, by simp [Op.unary, Op.intArith], rfl⟩
    · exact ⟨_, by simp [Op.unary, Op.intBits], rfl⟩
  · obtain rfl := bool_inv hx
    split at h <;> simp at h <;> subst h
    exact ⟨_, by simp [Op.unary], rfl⟩
  · simp at h

def cConv (P : Program) (src dst : TypeId) : Value → Option Value
  | .int k n => match ti P src, ti P dst with
    | some _, some T => match T.desc with
      | .int k' => some (.int k' (k'.wrap n))
      | _ => none
    | _, _ => none
  | _ => none

theorem conv_sound {src dst : TypeId} {β : Names} {w : World} {x u v : Value} (hx : VT β x u) (h : cConv P src dst x = some v) : Pure P β w (convert src dst u) v := by
  obtain ⟨k, n, rfl⟩ : ∃ k n, x = .int k n := by cases x <;> simp [cConv] at h; exact ⟨_, _, rfl⟩
  obtain rfl := int_inv hx
  simp only [cConv] at h
  split at h
  case h_2 => simp at h
  case h_1 S T hS hT =>
    split at h
    case h_2 => simp at h
    case h_1 k' hk' =>
      simp at h
      subst h
      obtain ⟨d, i, z, hd, hi, hz, e1, _⟩ := ti_some hT
      obtain ⟨d', i', z', hd', _⟩ := ti_some hS
      have := TD.of_int (e1.symm.trans hk')
      subst this
      exact ⟨_, by simp [convert, run_underlying hd, run_underlying hd', Conv.intToInt], rfl⟩

def cPick : Value → Option Value → Option Value → Option Value
  | .bool true, some a, _ => some a
  | .bool false, _, some b => some b
  | _, _, _ => none

/-! ### Greatest and least -/

def cMax : List Value → Option Value
  | [.int k a] => some (.int k a)
  | [.int k a, .int k' b] => if k = k' then some (.int k (max a b)) else none
  | [.int k a, .int k' b, .int k'' c] => if k = k' ∧ k = k'' then some (.int k (max (max a b) c)) else none
  | _ => none
def cMin : List Value → Option Value
  | [.int k a] => some (.int k a)
  | [.int k a, .int k' b] => if k = k' then some (.int k (min a b)) else none
  | [.int k a, .int k' b, .int k'' c] => if k = k' ∧ k = k'' then some (.int k (min (min a b) c)) else none
  | _ => none

end Go.Sep
/- Values built out of parts; slices made, cut, appended to. -/
namespace Go.Sep
open Go
set_option linter.unusedVariables false
set_option linter.unusedSimpArgs false

variable {P : Program}

/-! ### build -/

def fillC (P : Program) (place : Nat → Option (Nat × Nat)) (cells : List Value) : List (Nat × Value) → Option (List Value)
  | [] => some cells
  | (i, v) :: rest => match place i with
    | none => none
    | some (off, size) => if v.cells.size = size ∧ off + size ≤ cells.length then fillC P place (putC cells off v.cells.toList) rest else none

theorem foldl_size (off : Nat) : ∀ (us : List Value) (j0 : Nat) (c : Array Value), ((us.zipIdx j0).foldl (fun cs (x : Value × Nat) => cs.setIfInBounds (off + x.2) x.1) c).size = c.size
  | [], _, _ => rfl
  | u :: us, j0, c => by
    rw [List.zipIdx_cons, List.foldl_cons, foldl_size off us (j0 + 1)]
    simp

theorem foldl_get (off : Nat) : ∀ (us : List Value) (j0 : Nat) (c : Array Value) (i : Nat), off + j0 + us.length ≤ c.size →
    ((us.zipIdx j0).foldl (fun cs (x : Value × Nat) => cs.setIfInBounds (off + x.2) x.1) c)[i]? =
      if off + j0 ≤ i ∧ i < off + j0 + us.length then us[i - (off + j0)]? else c[i]?
  | [], j0, c, i, _ => by
    rw [if_neg (by simp)]; rfl
  | u :: us, j0, c, i, h => by
    rw [List.zipIdx_cons, List.foldl_cons]
    simp at h
    rw [foldl_get off us (j0 + 1) _ i (by simp; omega)]
    simp only [List.length_cons]
    by_cases h1 : i = off + j0
    · subst h1
      rw [if_neg (by omega), if_pos (by omega)]
      rw [Array.getElem?_setIfInBounds]
      simp only [Nat.sub_self, List.getElem?_cons_zero]
      rw [if_pos trivial, if_pos (by omega)]
    · by_cases h2 : off + j0 ≤ i ∧ i < off + j0 + (us.length + 1)
      · rw [if_pos h2, if_pos (by omega)]
        rw [show i - (off + j0) = (i - (off + (j0 + 1))) + 1 by omega]
        simp
      · rw [if_neg h2, if_neg (by omega)]
        rw [Array.getElem?_setIfInBounds_ne (by omega)]

theorem fill_sound {β : Names} {pc pm : Nat → Option (Nat × Nat)} (hp : ∀ i q, pc i = some q → pm i = some q) : ∀ (parts : List (Nat × Value)) (parts' : List (Nat × Value)) (cs : List Value) (c : Array Value) (r : List Value),
    All2 (fun (a b : Nat × Value) => a.1 = b.1 ∧ VA β a.2 b.2) parts parts' → All2 (VC β) cs c.toList → fillC P pc cs parts = some r →
    ∃ r', Instr.fill pm c parts' = some r' ∧ All2 (VC β) r r'.toList
  | [], [], cs, c, r, _, hc, h => by simp [fillC] at h; subst h; exact ⟨c, rfl, hc⟩
  | [], _ :: _, _, _, _, hh, _, _ => hh.elim
  | _ :: _, [], _, _, _, hh, _, _ => hh.elim
  | (i, v) :: parts, (i', v') :: parts', cs, c, r, hh, hc, h => by
    obtain ⟨⟨rfl, hv⟩, hrest⟩ := hh
    simp only [fillC] at h
    split at h
    · simp at h
    · rename_i off size hpl
      split at h
      · rename_i hk
        obtain ⟨hk1, hk2⟩ := hk
        have hcells := hv.cells
        have hsz : v'.cells.size = size := by have := hcells.length; simp at this; omega
        have hcl : cs.length = c.size := by have := hc.length; simpa using this
        simp only [Instr.fill, hp _ _ hpl]
        rw [if_neg (by simp [hsz]; omega)]
        refine fill_sound hp parts parts' _ _ r hrest ?_ h
        have hfit : off + v.cells.toList.length ≤ cs.length := by simp; omega
        rw [putC_eq hfit]
        have hfold : (v'.cells.zipIdx.foldl (fun cs (x : Value × Nat) => cs.setIfInBounds (off + x.2) x.1) c) = ((v'.cells.toList.zipIdx 0).foldl (fun cs (x : Value × Nat) => cs.setIfInBounds (off + x.2) x.1) c) := by
          rw [← Array.foldl_toList]; simp
        rw [hfold]
        refine All2.of_get ?_ ?_
        · simp [foldl_size]; omega
        · intro j u hj
          rw [show ((List.foldl (fun (cs : Array Value) (x : Value × Nat) => cs.setIfInBounds (off + x.2) x.1) c (v'.cells.toList.zipIdx 0)).toList[j]?) = (List.foldl (fun (cs : Array Value) (x : Value × Nat) => cs.setIfInBounds (off + x.2) x.1) c (v'.cells.toList.zipIdx 0))[j]? by simp]
          rw [foldl_get off _ 0 c j (by simp; omega)]
          have hcs1 : (cs.take off).length = off := by simp; omega
          have hvl : v.cells.toList.length = size := by simp; omega
          by_cases h1 : j < off
          · rw [List.append_assoc, List.getElem?_append_left (by omega), List.getElem?_take, if_pos h1] at hj
            rw [if_neg (by omega)]
            obtain ⟨b, hb, hbv⟩ := hc.get _ _ hj
            exact ⟨b, by simpa using hb, hbv⟩
          · by_cases h2 : j < off + size
            · rw [List.append_assoc, List.getElem?_append_right (by omega), List.getElem?_append_left (by omega), hcs1] at hj
              rw [if_pos (by simp; omega)]
              obtain ⟨b, hb, hbv⟩ := hcells.get _ _ hj
              exact ⟨b, by simpa using hb, hbv⟩
            · rw [List.getElem?_append_right (by simp; omega), List.getElem?_drop] at hj
              simp only [List.length_append, hcs1, hvl] at hj
              rw [show off + size + (j - (off + size)) = j by omega] at hj
              rw [if_neg (by simp; omega)]
              obtain ⟨b, hb, hbv⟩ := hc.get _ _ hj
              exact ⟨b, by simpa using hb, hbv⟩
      · simp at h

/-- The places of a struct's fields, of an array's elements. -/
def placesC (P : Program) (T : TI) : Nat → Option (Nat × Nat) :=
  match T.desc with
  | .struct fs => fun i => match fs[i]? with
    | some (off, ft) => (ti P ft).map fun F => (off, F.size)
    | none => none
  | .array _ e => fun i => (ti P e).map fun E => (i * E.size, E.size)
  | _ => fun _ => none

def fieldsOk (P : Program) (T : TI) : Bool :=
  match T.desc with
  | .struct fs => fs.all fun f => (ti P f.2).isSome
  | .array _ e => (ti P e).isSome
  | _ => false

def cBuild (P : Program) (t : TypeId) (parts : List (Nat × Value)) : Option Value :=
  match ti P t with
  | some T => if T.zero.all konst0 ∧ fieldsOk P T then (fillC P (placesC P T) T.zero parts).map fun cs => .agg cs.toArray else none
  | none => none

theorem run_places (w : World) : ∀ (gs : List Field), (gs.map (fun f => (f.offset, f.type))).all (fun f => (ti P f.2).isSome) = true →
    ∃ ps : List (Nat × Nat), (gs.mapM (fun f => Prod.mk f.offset <$> sizeOf f.type : Field → Sem (Nat × Nat))).run P w = .ok ps w ∧
      ∀ (i : Nat) (g : Field), gs[i]? = some g → ∃ F, ti P g.type = some F ∧ ps[i]? = some (g.offset, F.size)
  | [], _ => ⟨[], by simp, by simp⟩
  | g :: gs, h => by
    simp at h
    obtain ⟨h1, h2⟩ := h
    obtain ⟨F, hF⟩ := Option.isSome_iff_exists.mp h1
    obtain ⟨d, ii, z, hd, hii, hz, e1, e2, e3, e4, e5⟩ := ti_some hF
    obtain ⟨ps, hps, hall⟩ := run_places w gs (by simpa using h2)
    refine ⟨(g.offset, F.size) :: ps, ?_, ?_⟩
    · simp [List.mapM_cons, run_size hii, hps, e2]
    · intro i q hq
      cases i with
      | zero => simp at hq; subst hq; exact ⟨F, hF, by simp⟩
      | succ i => simp at hq; obtain ⟨F', h3, h4⟩ := hall i q hq; exact ⟨F', h3, by simpa using h4⟩

theorem build_sound {t : TypeId} {β : Names} {w : World} {parts parts' : List (Nat × Value)} {v : Value} (hp : All2 (fun (a b : Nat × Value) => a.1 = b.1 ∧ VA β a.2 b.2) parts parts')
    (h : cBuild P t parts = some v) : Pure P β w (Instr.build t parts'.toArray) v := by
  unfold cBuild at h
  split at h
  case h_2 => simp at h
  case h_1 T hT =>
    split at h
    case isFalse => simp at h
    case isTrue hk =>
      obtain ⟨hk1, hk2⟩ := hk
      obtain ⟨d, ii, z, hd, hii, hz, e1, e2, e3, e4, e5⟩ := ti_some hT
      simp only [Option.map_eq_some_iff] at h
      obtain ⟨cs, hcs, rfl⟩ := h
      have hzero : All2 (VC β) T.zero z.cells.toList := by rw [← e4]; exact konst0_All2 hk1
      cases hdd : T.desc <;> simp only [fieldsOk, hdd] at hk2 <;> first | (simp at hk2; done) | skip
      case struct fs =>
        obtain ⟨gs, rfl, rfl⟩ := TD.of_struct (e1.symm.trans hdd)
        obtain ⟨ps, hps, hall⟩ := run_places w gs.toList hk2
        obtain ⟨r', hr', hrv⟩ := fill_sound (P := P) (β := β) (pc := placesC P T) (pm := fun x => ps[x]?) (by
          intro i q hq
          simp only [placesC, hdd] at hq
          split at hq
          · rename_i off ft hff
            simp only [List.getElem?_map, Option.map_eq_some_iff] at hff
            obtain ⟨g, hg, hge⟩ := hff
            injection hge with hoff hft
            subst hoff; subst hft
            obtain ⟨F, hF, hps⟩ := hall i g hg
            simp [hF] at hq
            subst hq
            exact hps
          · simp at hq) parts parts' T.zero z.cells cs hp hzero hcs
        refine ⟨.agg r', ?_, ⟨r', rfl, by simpa using hrv⟩⟩
        have hps' : (gs.mapM (fun f => Prod.mk f.offset <$> sizeOf f.type : Field → Sem (Nat × Nat))).run P w = .ok ps.toArray w := by
          rw [Array.mapM_eq_mapM_toList]
          simp [hps]
        simp [Instr.build, run_zero hii hz, run_underlying hd, hps', hr']
      case array n e =>
        have := TD.of_array (e1.symm.trans hdd)
        subst this
        obtain ⟨E, hE⟩ := Option.isSome_iff_exists.mp hk2
        obtain ⟨d', i', z', hd', hi', hz', e1', e2', e3', e4', _⟩ := ti_some hE
        obtain ⟨r', hr', hrv⟩ := fill_sound (P := P) (β := β) (pc := placesC P T) (pm := fun i => some (i * i'.size, i'.size)) (by
          intro i q hq
          simp [placesC, hdd, hE] at hq
          subst hq
          simp [e2']) parts parts' T.zero z.cells cs hp hzero hcs
        refine ⟨.agg r', ?_, ⟨r', rfl, by simpa using hrv⟩⟩
        simp [Instr.build, run_zero hii hz, run_underlying hd, run_size hi', hr']

/-! ### Slices made -/

theorem zeros_length (z : List Value) : ∀ n, (zeros z n).length = n * z.length
  | 0 => by simp [zeros]
  | n + 1 => by simp [zeros, zeros_length z n, Nat.succ_mul]; omega

theorem zeros_get (z : List Value) (hz : 0 < z.length) : ∀ (n i : Nat), i < n * z.length → (zeros z n)[i]? = z[i % z.length]?
  | 0, i, h => by simp at h
  | n + 1, i, h => by
    rw [Nat.succ_mul] at h
    simp only [zeros]
    by_cases hi : i < z.length
    · rw [List.getElem?_append_left hi, Nat.mod_eq_of_lt hi]
    · rw [List.getElem?_append_right (by omega), zeros_get z hz n _ (by omega)]
      congr 1
      have : i = (i - z.length) + z.length := by omega
      conv => rhs; rw [this, Nat.add_mod_right]

/-- A new slice of `n` elements. -/
def cMake (P : Program) (t : TypeId) (H : Heap) (n : Nat) : Value → Value → Option (Value × Heap × Nat)
  | .int .i64 a, .int .i64 b => match ti P t with
    | some T => match T.desc with
      | .slice e => match ti P e with
        | some E => if a = b ∧ 0 ≤ a ∧ a ≤ 2 ^ 30 ∧ E.bytes ≤ 2 ^ 16 ∧ E.zero.length = E.size ∧ E.zero.all konst0 then
            some (.slice (some ⟨n, 0, none⟩) a.toNat E.size, H.set n (.cells false (zeros E.zero a.toNat)), n + 1) else none
        | none => none
      | _ => none
    | none => none
  | _, _ => none

theorem zeroRow_get {β : Names} {z : Array Value} (hz : z.toList.all konst0 = true) (n : Nat) : ∀ (i : Nat) (v : Value), (zeros z.toList n)[i]? = some v →
    ∃ u, (((Array.range (n * z.size)).map (z[· % z.size]!)))[i]? = some u ∧ VC β v u := by
  intro i v hi
  have hlt : i < n * z.size := by
    have := (List.getElem?_eq_some_iff.mp hi).1
    rwa [zeros_length, Array.length_toList] at this
  have hpos : 0 < z.size := Nat.pos_of_ne_zero fun e => by simp [e] at hlt
  rw [zeros_get _ (by simpa using hpos) _ _ (by simpa using hlt)] at hi
  simp only [Array.length_toList] at hi
  have hmod : i % z.size < z.size := Nat.mod_lt _ hpos
  have hzi : z[i % z.size]? = some v := by simpa using hi
  have hv : v = z[i % z.size]! := by
    rw [getElem!_pos z _ hmod]
    rw [Array.getElem?_eq_getElem hmod] at hzi
    exact (Option.some.inj hzi).symm
  refine ⟨z[i % z.size]!, ?_, ?_⟩
  · simp [hlt]
  · rw [← hv]
    refine konst0_VC ?_
    have hm : v ∈ z.toList := List.mem_of_getElem? (show z.toList[i % z.size]? = some v by simpa using hzi)
    exact List.all_eq_true.mp hz v hm

theorem make_sound {t : TypeId} {n : Nat} {β : Names} {H H' : Heap} {w : World} (hs : Sat β H w) (hf : ∀ x, n ≤ x → β x = none) {x y u r v : Value} {n' : Nat}
    (hx : VT β x u) (hy : VT β y r) (h : cMake P t H n x y = some (v, H', n')) :
    ∃ q w' β', (Instr.makeSlice t u r).run P w = .ok q w' ∧ VT β' v q ∧ Sat β' H' w' ∧ n ≤ n' ∧ (∀ x, n' ≤ x → β' x = none) ∧ Grow n β H w β' H' w' := by
  obtain ⟨a, b, rfl, rfl⟩ : ∃ a b, x = .int .i64 a ∧ y = .int .i64 b := by
    unfold cMake at h
    split at h
    · exact ⟨_, _, rfl, rfl⟩
    · simp at h
  obtain rfl := int_inv hx
  obtain rfl := int_inv hy
  simp only [cMake] at h
  split at h
  case h_2 => simp at h
  case h_1 T hT =>
    split at h
    case h_2 => simp at h
    case h_1 e hTe =>
      split at h
      case h_2 => simp at h
      case h_1 E hE =>
        split at h
        case isFalse => simp at h
        case isTrue hk =>
          obtain ⟨rfl, h0, h1, h2, h3, h4⟩ := hk
          simp only [Option.some.injEq, Prod.mk.injEq] at h
          obtain ⟨rfl, rfl, rfl⟩ := h
          obtain ⟨d, ii, z, hd, hii, hz, e1, e2, e3, e4, e5⟩ := ti_some hT
          obtain ⟨d', i', z', hd', hi', hz', e1', e2', e3', e4', _⟩ := ti_some hE
          have := TD.of_slice (e1.symm.trans hTe)
          subst this
          have hwrap : IntKind.wrap .i64 a = a := by
            simp only [IntKind.wrap, IntKind.bits, IntKind.signed]
            have : a % 2 ^ 64 = a := Int.emod_eq_of_lt h0 (by omega)
            simp only [this]
            rw [if_neg (by simp; omega)]
          have hzs : z'.cells.size = i'.size := by rw [e4', e2'] at h3; simpa using h3
          let c : Array Value := (Array.range (a.toNat * z'.cells.size)).map (z'.cells[· % z'.cells.size]!)
          have hcs : c.size = a.toNat * i'.size := by simp [c, hzs]
          obtain ⟨β', hrun, hn, hle, g1, g2, g3⟩ := newRow_sound (P := P) hs hf (cs := zeros E.zero a.toNat) (c := c) e
            (by rw [zeros_length, h3, e2', hcs]; exact Nat.le_refl _)
            (fun i v hi => by rw [e4'] at hi; exact zeroRow_get (by rw [← e4']; exact h4) _ i v hi)
          refine ⟨.slice (some ⟨w.heap.size, 0, none⟩) a.toNat a.toNat, w.alloc (.cells c e), β', ?_, ?_, g1, Nat.le_succ _, g2, g3⟩
          · have hbytes : (i'.bytes : Int) * a ≤ 2 ^ 46 := by
              rw [e3'] at h2
              have : (i'.bytes : Int) * a ≤ (2 ^ 16 : Int) * 2 ^ 30 := Int.mul_le_mul (by exact_mod_cast h2) h1 h0 (by decide)
              omega
            have hroom : ¬ (a.toNat * i'.bytes > roomBytes) := by
              have : ((a.toNat * i'.bytes : Nat) : Int) ≤ 2 ^ 46 := by push_cast; rw [Int.toNat_of_nonneg h0, Int.mul_comm]; exact hbytes
              unfold roomBytes
              omega
            have htl : (decide (a < 0) || decide ((i'.bytes : Int) * a > 2 ^ 48)) = false := by simp; omega
            have hc : ((Array.range (a.toNat * i'.size)).map ((if a.toNat * i'.size = 0 then #[] else z'.cells)[· % (if a.toNat * i'.size = 0 then (#[] : Array Value) else z'.cells).size]!)) = c := by
              by_cases h0 : a.toNat * i'.size = 0
              · simp [c, hzs, h0]
              · simp only [c, hzs, if_neg h0]
            simp only [Instr.makeSlice, Sem.run_bind, run_underlying hd, Result.andThen_ok, asInt, asIntOf, Sem.run_pure, run_info hi', hwrap, askRoom]
            simp only [htl, Bool.false_eq_true, false_or, Bool.or_false, decide_false]
            rw [if_neg (by simp; omega), if_neg hroom]
            simp only [Sem.run_pure, Result.andThen_ok, run_size hi', Sem.run_bind]
            by_cases h00 : a.toNat * i'.size = 0
            · simp only [h00, if_true] at hc ⊢
              simp only [Sem.run_bind, Sem.run_pure, Result.andThen_ok, hc, hrun]
            · simp only [if_neg h00] at hc ⊢
              simp only [Sem.run_bind, run_zero hi' hz', Sem.run_pure, Result.andThen_ok, hc, hrun]
          · exact ⟨⟨w.heap.size, 0, c.size⟩, a.toNat, hn, rfl, Nat.le_refl _, by simp [hcs, e2'], by simp⟩

end Go.Sep
/- Slices written out, cut, appended to; lengths; greatest and least. -/
namespace Go.Sep
open Go
set_option linter.unusedVariables false
set_option linter.unusedSimpArgs false

variable {P : Program}

/-! ### []T{..} -/

def cBuildSlice (P : Program) (t : TypeId) (len : Nat) (H : Heap) (n : Nat) (parts : List (Nat × Value)) : Option (Value × Heap × Nat) :=
  match ti P t with
  | some T => match T.desc with
    | .slice e => match ti P e with
      | some E => if len ≤ 1000 ∧ E.size ≤ 1000 ∧ E.zero.length = E.size ∧ E.zero.all konst0 then
          match fillC P (fun i => some (i * E.size, E.size)) (zeros E.zero len) parts with
          | some cs => if cs.length = len * E.size then some (.slice (some ⟨n, 0, none⟩) len E.size, H.set n (.cells false cs), n + 1) else none
          | none => none
        else none
      | none => none
    | _ => none
  | none => none

theorem buildSlice_sound {t : TypeId} {len n : Nat} {β : Names} {H H' : Heap} {w : World} (hs : Sat β H w) (hf : ∀ x, n ≤ x → β x = none) {parts parts' : List (Nat × Value)} {v : Value} {n' : Nat}
    (hp : All2 (fun (a b : Nat × Value) => a.1 = b.1 ∧ VA β a.2 b.2) parts parts') (h : cBuildSlice P t len H n parts = some (v, H', n')) :
    ∃ q w' β', (Instr.buildSlice t len parts'.toArray).run P w = .ok q w' ∧ VT β' v q ∧ Sat β' H' w' ∧ n ≤ n' ∧ (∀ x, n' ≤ x → β' x = none) ∧ Grow n β H w β' H' w' := by
  unfold cBuildSlice at h
  split at h
  case h_2 => simp at h
  case h_1 T hT =>
    split at h
    case h_2 => simp at h
    case h_1 e hTe =>
      split at h
      case h_2 => simp at h
      case h_1 E hE =>
        split at h
        case isFalse => simp at h
        case isTrue hk =>
          obtain ⟨h0, h1, h3, h4⟩ := hk
          split at h
          case h_2 => simp at h
          case h_1 cs hcs =>
            split at h
            case isFalse => simp at h
            case isTrue hlen =>
              simp only [Option.some.injEq, Prod.mk.injEq] at h
              obtain ⟨rfl, rfl, rfl⟩ := h
              obtain ⟨d, ii, z, hd, hii, hz, e1, e2, e3, e4, e5⟩ := ti_some hT
              obtain ⟨d', i', z', hd', hi', hz', e1', e2', e3', e4', _⟩ := ti_some hE
              have := TD.of_slice (e1.symm.trans hTe)
              subst this
              have hzs : z'.cells.size = i'.size := by rw [e4', e2'] at h3; simpa using h3
              have hz0 : All2 (VC β) (zeros E.zero len) ((Array.range (len * z'.cells.size)).map (z'.cells[· % z'.cells.size]!)).toList := by
                refine All2.of_get (by simp [zeros_length, h3, e2', hzs]) fun i v hi => ?_
                rw [e4'] at hi
                obtain ⟨u, hu, huv⟩ := zeroRow_get (β := β) (by rw [← e4']; exact h4) len i v hi
                exact ⟨u, by rw [Array.getElem?_toList]; exact hu, huv⟩
              obtain ⟨r', hr', hrv⟩ := fill_sound (P := P) (β := β) (pm := fun i => some (i * i'.size, i'.size)) (fun i q hq => by rw [e2'] at hq; exact hq) parts parts' _ _ cs hp hz0 hcs
              have hrl : cs.length = r'.size := by have := hrv.length; simpa using this
              obtain ⟨β', hrun, hn, hle, g1, g2, g3⟩ := newRow_sound (P := P) hs hf (cs := cs) (c := r') e (by omega) (fun i v hi => by
                obtain ⟨u, hu, huv⟩ := hrv.get i v hi; exact ⟨u, by simpa using hu, huv⟩)
              refine ⟨.slice (some ⟨w.heap.size, 0, none⟩) len len, w.alloc (.cells r' e), β', ?_, ?_, g1, Nat.le_succ _, g2, g3⟩
              · have hroom : ¬ (len * i'.size > 2 ^ 24) := by
                  have : len * i'.size ≤ 1000 * 1000 := Nat.mul_le_mul h0 (by omega)
                  omega
                have hcnv : (Array.range (len * i'.size)).map (fun x => (if len * i'.size = 0 then (#[] : Array Value) else z'.cells)[x % (if len * i'.size = 0 then (#[] : Array Value) else z'.cells).size]!) =
                    ((Array.range (len * z'.cells.size)).map (z'.cells[· % z'.cells.size]!)) := by
                  by_cases h00 : len * i'.size = 0
                  · simp [hzs, h00]
                  · simp only [hzs, if_neg h00]
                rw [← hcnv] at hr'
                simp only [Instr.buildSlice, Sem.run_bind, run_underlying hd, Result.andThen_ok, run_size hi', if_neg hroom, Sem.run_pure]
                by_cases h00 : len * i'.size = 0
                · simp only [h00, if_true] at hr' ⊢
                  simp only [Sem.run_bind, Sem.run_pure, Result.andThen_ok, hr', hrun]
                · simp only [if_neg h00] at hr' ⊢
                  simp only [Sem.run_bind, run_zero hi' hz', Sem.run_pure, Result.andThen_ok, hr', hrun]
              · exact ⟨⟨w.heap.size, 0, r'.size⟩, len, hn, rfl, Nat.le_refl _, by rw [e2'] at hlen ⊢; simp; omega, by simp⟩

/-! ### s[l:h] -/

/-- The bounds of a cut. -/
def cBounds (n : Nat) (lo hi mx : Option Value) : Option (Nat × Nat × Option Nat) :=
  let get (v : Option Value) (d : Nat) : Option Nat := match v with
    | none => some d
    | some (.int _ i) => if 0 ≤ i ∧ i ≤ (n : Int) then some i.toNat else none
    | _ => none
  match get lo 0, get hi n with
  | some l, some h => if l ≤ h then match mx with
      | none => some (l, h, none)
      | some (.int _ i) => if 0 ≤ i ∧ i ≤ (n : Int) ∧ h ≤ i.toNat ∧ hi.isSome then some (l, h, some i.toNat) else none
      | _ => none
    else none
  | _, _ => none

theorem run_sliceBound {w : World} {q : IntKind} {i : Int} {y : Nat} {code : BoundsCode} (h0 : 0 ≤ i) (h1 : i ≤ (y : Int)) :
    (Instr.sliceBound (.int q i) y code).run P w = .ok i.toNat w := by
  unfold Instr.sliceBound
  simp only [asIntOf, Sem.run_bind, Sem.run_pure, Result.andThen_ok]
  rw [if_pos ⟨h0, h1⟩]
  rfl

theorem cBounds_sound {β : Names} {w : World} {isSlice : Bool} {n cap : Nat} (hcap : n ≤ cap) {lo hi mx lo' hi' mx' : Option Value}
    (h1 : All2 (fun a b => a = none ∧ b = none ∨ ∃ x y, a = some x ∧ b = some y ∧ VT β x y) [lo, hi, mx] [lo', hi', mx'])
    {l h : Nat} {m : Option Nat} (hb : cBounds n lo hi mx = some (l, h, m)) :
    (Instr.sliceBounds isSlice n cap lo' hi' mx').run P w = .ok (l, h, m.getD cap) w ∧ l ≤ h ∧ h ≤ n ∧ (∀ k, m = some k → h ≤ k ∧ k ≤ n) := by
  obtain ⟨hlo, hhi, hmx, _⟩ := h1
  have bound : ∀ (a b : Option Value) (d k : Nat), (a = none ∧ b = none ∨ ∃ x y, a = some x ∧ b = some y ∧ VT β x y) →
      (match a with | none => some d | some (.int _ i) => if 0 ≤ i ∧ i ≤ (n : Int) then some i.toNat else none | _ => none) = some k →
      (b = none ∧ k = d ∧ a = none) ∨ ∃ q i, a = some (.int q i) ∧ b = some (.int q i) ∧ 0 ≤ i ∧ i ≤ (n : Int) ∧ k = i.toNat := by
    intro a b d k hab hk
    rcases hab with ⟨rfl, rfl⟩ | ⟨x, y, rfl, rfl, hxy⟩
    · simp at hk; exact .inl ⟨rfl, hk.symm, rfl⟩
    · cases x <;> simp at hk
      rename_i q i
      obtain rfl := int_inv hxy
      exact .inr ⟨q, i, rfl, rfl, hk.1.1, hk.1.2, hk.2.symm⟩
  unfold cBounds at hb
  simp only [] at hb
  split at hb
  case h_2 => simp at hb
  case h_1 l0 h0 hl0 hh0 =>
    split at hb
    case isFalse => simp at hb
    case isTrue hle =>
      have B1 := bound lo lo' 0 l0 hlo hl0
      have B2 := bound hi hi' n h0 hhi hh0
      split at hb
      · simp only [Option.some.injEq, Prod.mk.injEq] at hb
        obtain ⟨rfl, rfl, rfl⟩ := hb
        have hm' : mx' = none := by
          rcases hmx with ⟨_, h⟩ | ⟨x, y, h, _⟩
          · exact h
          · simp at h
        subst hm'
        refine ⟨?_, hle, ?_, by simp⟩
        · rcases B1 with ⟨rfl, rfl, _⟩ | ⟨q, i, _, rfl, a1, a2, rfl⟩ <;> rcases B2 with ⟨rfl, rfl, _⟩ | ⟨q', j, _, rfl, b1, b2, rfl⟩
          · rfl
          · simp only [Instr.sliceBounds, Sem.run_bind, Sem.run_pure, Result.andThen_ok, run_sliceBound (P := P) (w := w) b1 (show j ≤ (cap : Int) by omega)]; rfl
          · simp only [Instr.sliceBounds, Sem.run_bind, Sem.run_pure, Result.andThen_ok, run_sliceBound (P := P) (w := w) a1 a2]; rfl
          · simp only [Instr.sliceBounds, Sem.run_bind, Sem.run_pure, Result.andThen_ok, run_sliceBound (P := P) (w := w) b1 (show j ≤ (cap : Int) by omega),
              run_sliceBound (P := P) (w := w) (y := j.toNat) a1 (show i ≤ (j.toNat : Int) by omega)]; rfl
        · rcases B2 with ⟨_, rfl, _⟩ | ⟨q', j, _, _, b1, b2, rfl⟩ <;> omega
      · rename_i q i
        split at hb
        case isFalse => simp at hb
        case isTrue hk =>
          simp only [Option.some.injEq, Prod.mk.injEq] at hb
          obtain ⟨rfl, rfl, rfl⟩ := hb
          obtain ⟨k1, k2, k3, k4⟩ := hk
          have hm' : mx' = some (.int q i) := by
            rcases hmx with ⟨h, _⟩ | ⟨x, y, h, h2, h3⟩
            · simp at h
            · simp at h; subst h; rw [h2, int_inv h3]
          subst hm'
          refine ⟨?_, hle, ?_, ?_⟩
          · rcases B2 with ⟨_, _, e⟩ | ⟨q', j, _, rfl, b1, b2, rfl⟩
            · simp [e] at k4
            · rcases B1 with ⟨rfl, rfl, _⟩ | ⟨q2, i2, _, rfl, a1, a2, rfl⟩
              · simp only [Instr.sliceBounds, Sem.run_bind, Sem.run_pure, Result.andThen_ok, run_sliceBound (P := P) (w := w) k1 (show i ≤ (cap : Int) by omega),
                  run_sliceBound (P := P) (w := w) (y := i.toNat) b1 (show j ≤ (i.toNat : Int) by omega)]; rfl
              · simp only [Instr.sliceBounds, Sem.run_bind, Sem.run_pure, Result.andThen_ok, run_sliceBound (P := P) (w := w) k1 (show i ≤ (cap : Int) by omega),
                  run_sliceBound (P := P) (w := w) (y := i.toNat) b1 (show j ≤ (i.toNat : Int) by omega),
                  run_sliceBound (P := P) (w := w) (y := j.toNat) a1 (show i2 ≤ (j.toNat : Int) by omega)]; rfl
          · rcases B2 with ⟨_, rfl, _⟩ | ⟨q', j, _, _, b1, b2, rfl⟩ <;> omega
          · intro k hk; simp at hk; subst hk; omega
      · simp at hb

def cSlice (P : Program) (t : TypeId) (H : Heap) (x : Value) (lo hi mx : Option Value) : Option Value :=
  match ti P t with
  | some T => match T.desc, x with
    | .slice e, .slice (some p) n es => match ti P e with
      | some E => if es = E.size then match cBounds n lo hi mx with
          | some (l, h, m) => if m = some l then some (.slice none 0 1) else if h = l then some (.slice none 0 2) else some (.slice (some ⟨p.block, p.off + l * es, none⟩) (h - l) es)
          | none => none
        else none
      | none => none
    | .slice e, .slice none n es => match ti P e with
      | some _ => match cBounds 0 lo hi mx with
        | some _ => some (.slice none n es)
        | none => none
      | none => none
    | .array n e, .pointer (some p) => match ti P e, H p.block with
      | some E, some (.cells _ cs) => if p.off + n * E.size ≤ cs.length then match cBounds n lo hi mx with
          | some (l, h, m) => if m = some l then some (.slice none 0 1) else if h = l then some (.slice none 0 2) else some (.slice (some ⟨p.block, p.off + l * E.size, none⟩) (h - l) E.size)
          | none => none
        else none
      | _, _ => none
    | _, _ => none
  | none => none

abbrev OptRel (β : Names) : Option Value → Option Value → Prop := fun a b => a = none ∧ b = none ∨ ∃ x y, a = some x ∧ b = some y ∧ VT β x y

theorem cut_rel {β : Names} {p : Addr} {lc : Loc} {es c l h mm : Nat} {m : Option Nat} (hl : β p.block = some lc) (hsp : lc.base + p.off + c * es ≤ lc.size)
    (hlh : l ≤ h) (hmm : h ≤ mm) (hmc : mm ≤ c) (hm : ∀ k, m = some k → mm = k) {v : Value}
    (hv : (if m = some l then some (.slice none 0 1) else if h = l then some (.slice none 0 2) else some (.slice (some ⟨p.block, p.off + l * es, none⟩) (h - l) es)) = some v) :
    VT β v (.slice (some (if mm = l then (⟨lc.blk, lc.base + p.off, none⟩ : Addr) else ⟨lc.blk, lc.base + p.off + l * es, none⟩)) (h - l) (mm - l)) := by
  split at hv
  · rename_i e
    obtain rfl := Option.some.inj hv
    have := hm _ e
    subst this
    have h0 : h - mm = 0 := by omega
    rw [h0, Nat.sub_self]
    exact ⟨rfl, .inr (.inl ⟨rfl, _, rfl⟩)⟩
  · split at hv
    · rename_i e
      obtain rfl := Option.some.inj hv
      subst e
      rw [Nat.sub_self]
      exact ⟨rfl, .inr (.inr ⟨rfl, _, _, rfl⟩)⟩
    · rename_i e
      obtain rfl := Option.some.inj hv
      rw [if_neg (by omega)]
      refine ⟨lc, mm - l, hl, rfl, by omega, ?_, by rw [Nat.add_assoc]⟩
      have : l * es + (mm - l) * es = mm * es := by rw [← Nat.add_mul]; congr 1; omega
      have h2 : mm * es ≤ c * es := Nat.mul_le_mul_right _ hmc
      simp only []
      omega

theorem slice_sound {t : TypeId} {β : Names} {H : Heap} {w : World} (hs : Sat β H w) {x u v : Value} {lo hi mx lo' up' mx' : Option Value} (hx : VT β x u)
    (hb : All2 (OptRel β) [lo, hi, mx] [lo', up', mx']) (h : cSlice P t H x lo hi mx = some v) : Pure P β w (Instr.sliceAt t u lo' up' mx') v := by
  unfold cSlice at h
  split at h
  case h_2 => simp at h
  case h_1 T hT =>
    obtain ⟨d, ii, z, hd, hii, hz, e1, e2, e3, e4, e5⟩ := ti_some hT
    split at h
    case h_4 => simp at h
    case h_1 e p n es hTe =>
      have := TD.of_slice (e1.symm.trans hTe)
      subst this
      split at h
      case h_2 => simp at h
      case h_1 E hE =>
        obtain ⟨d', i', z', hd', hi', hz', e1', e2', e3', e4', _⟩ := ti_some hE
        split at h
        case isFalse => simp at h
        case isTrue hes =>
          split at h
          case h_2 => simp at h
          case h_1 l hh m hbd =>
            obtain ⟨lc, c, hl, _, hnc, hsp, rfl⟩ := hx
            obtain ⟨hrun, b1, b2, b3⟩ := cBounds_sound (P := P) (w := w) (isSlice := true) hnc hb hbd
            have hmm : hh ≤ m.getD c := by
              cases m with
              | none => simp; omega
              | some k => exact (b3 k rfl).1
            have hmc : m.getD c ≤ c := by
              cases m with
              | none => simp
              | some k => have := (b3 k rfl).2; simp; omega
            refine ⟨_, ?_, cut_rel (m := m) hl hsp b1 hmm hmc (fun k hk => by subst hk; rfl) h⟩
            simp only [Instr.sliceAt, Instr.slice, Sem.run_bind, run_underlying hd, Result.andThen_ok, hrun, run_size hi', Sem.run_pure]
            rw [hes, e2']
            congr 2
            by_cases e : m.getD c = l
            · rw [if_pos e, if_pos e]
            · rw [if_neg e, if_neg e]; simp [addr_add]
    case h_2 e n es hTe =>
      have := TD.of_slice (e1.symm.trans hTe)
      subst this
      split at h
      case h_2 => simp at h
      case h_1 E hE =>
        obtain ⟨d', i', z', hd', hi', hz', e1', e2', e3', e4', _⟩ := ti_some hE
        split at h
        case h_2 => simp at h
        case h_1 q hbd =>
          obtain ⟨l, hh, m⟩ := q
          obtain rfl := Option.some.inj h
          obtain ⟨rfl, hx⟩ := hx
          have key : ∀ A c, ∃ A' c', (Instr.sliceAt t (.slice A 0 c) lo' up' mx').run P w = .ok (.slice A' 0 c') w ∧ (c = 0 → c' = 0) ∧ (A = none → A' = none) := by
            intro A c
            obtain ⟨hrun, b1, b2, b3⟩ := cBounds_sound (P := P) (w := w) (isSlice := true) (Nat.zero_le c) hb hbd
            have h0 : hh = 0 := by omega
            have l0 : l = 0 := by omega
            subst h0; subst l0
            have hmc : m.getD c ≤ c := by
              cases m with
              | none => simp
              | some k => have := (b3 k rfl).2; simp; omega
            refine ⟨if m.getD c = 0 then A else A.map (·.add (0 * i'.size)), m.getD c - 0, ?_, by omega, ?_⟩
            · simp only [Instr.sliceAt, Instr.slice, Sem.run_bind, run_underlying hd, Result.andThen_ok, hrun, run_size hi', Sem.run_pure]
            · rintro rfl; simp
          rcases hx with ⟨rfl, rfl⟩ | ⟨rfl, A, rfl⟩ | ⟨rfl, A, c, rfl⟩
          · obtain ⟨A', c', h1, h2, h3⟩ := key none 0
            have := h2 rfl
            subst this
            have := h3 rfl
            subst this
            exact ⟨_, h1, rfl, .inl ⟨rfl, rfl⟩⟩
          · obtain ⟨A', c', h1, h2, _⟩ := key A 0
            have := h2 rfl
            subst this
            exact ⟨_, h1, rfl, .inr (.inl ⟨rfl, _, rfl⟩)⟩
          · obtain ⟨A', c', h1, h2, _⟩ := key A c
            exact ⟨_, h1, rfl, .inr (.inr ⟨rfl, _, _, rfl⟩)⟩
    case h_3 n e p hTe =>
      have := TD.of_array (e1.symm.trans hTe)
      subst this
      split at h
      case h_2 => simp at h
      case h_1 E ro cs hE hH =>
        obtain ⟨d', i', z', hd', hi', hz', e1', e2', e3', e4', _⟩ := ti_some hE
        split at h
        case isFalse => simp at h
        case isTrue hfit =>
          split at h
          case h_2 => simp at h
          case h_1 l hh m hbd =>
            obtain ⟨lc, hl, rfl⟩ := pointer_inv hx
            obtain ⟨lc', c', el, fz, hl', _, hsz, hlen, _⟩ := hs.cells hH
            rw [hl] at hl'
            obtain rfl := Option.some.inj hl'
            obtain ⟨hrun, b1, b2, b3⟩ := cBounds_sound (P := P) (w := w) (isSlice := false) (Nat.le_refl n) hb hbd
            have hmm : hh ≤ m.getD n := by
              cases m with
              | none => simp; omega
              | some k => exact (b3 k rfl).1
            have hmc : m.getD n ≤ n := by
              cases m with
              | none => simp
              | some k => have := (b3 k rfl).2; simp; omega
            refine ⟨_, ?_, cut_rel (m := m) hl (es := E.size) (c := n) (by omega) b1 hmm hmc (fun k hk => by subst hk; rfl) h⟩
            simp only [Instr.sliceAt, Instr.sureAddr, Sem.run_bind, run_underlying hd, Result.andThen_ok, hrun, run_size hi', Sem.run_pure, e2', addr_add]

/-! ### [n]T(s) -/

def cArrayAt (P : Program) (t : TypeId) : Value → Option Value
  | .slice (some p) n _ => match ti P t with
    | some T => match T.desc with
      | .array k _ => if k ≤ n then some (.pointer (some ⟨p.block, p.off, none⟩)) else none
      | _ => none
    | none => none
  | _ => none

theorem arrayAt_sound {t : TypeId} {β : Names} {w : World} {x u v : Value} (hx : VT β x u) (h : cArrayAt P t x = some v) : Pure P β w (Instr.arrayAt t u) v := by
  obtain ⟨p, n, es, rfl⟩ : ∃ p n es, x = .slice (some p) n es := by
    unfold cArrayAt at h
    split at h
    · exact ⟨_, _, _, rfl⟩
    · simp at h
  simp only [cArrayAt] at h
  split at h
  case h_2 => simp at h
  case h_1 T hT =>
    obtain ⟨d, ii, z, hd, hii, hz, e1, e2, e3, e4, e5⟩ := ti_some hT
    split at h
    case h_2 => simp at h
    case h_1 k e hTe =>
      have := TD.of_array (e1.symm.trans hTe)
      subst this
      split at h
      case isFalse => simp at h
      case isTrue hk =>
        obtain rfl := Option.some.inj h
        obtain ⟨lc, c, hl, _, _, _, rfl⟩ := hx
        exact ⟨_, by simp [Instr.arrayAt, run_underlying hd, Nat.not_lt.mpr hk], pointer_mk hl rfl⟩

/-! ### Functions made -/

def isV0 : Value → Bool
  | .func _ _ _ | .agg _ | .tuple _ => false
  | _ => true

def cMakeFunc (fn : Fn) (fs cs : List Value) : Option Value :=
  if fs = [] ∧ cs.all isV0 then some (.func fn #[] cs.toArray) else none

theorem isV0_V0 {β : Names} {c v : Value} (h : isV0 c = true) (hv : VT β c v) : V0 β c v := by
  cases c <;> first | exact hv | simp [isV0] at h

theorem all_V0 {β : Names} : ∀ {cs vs : List Value}, cs.all isV0 = true → All2 (VT β) cs vs → All2 (V0 β) cs vs
  | [], [], _, _ => trivial
  | c :: cs, v :: vs, h, hh => by simp at h; exact ⟨isV0_V0 h.1 hh.1, all_V0 (by simpa using h.2) hh.2⟩
  | [], _ :: _, _, hh => hh.elim
  | _ :: _, [], _, hh => hh.elim

theorem makeFunc_sound {fn : Fn} {fs cs fs' cs' : List Value} {β : Names} {w : World} {v : Value} (hf : All2 (VT β) fs fs') (hc : All2 (VT β) cs cs')
    (h : cMakeFunc fn fs cs = some v) : Pure P β w (Instr.makeFunc fn fs'.toArray cs'.toArray) v := by
  unfold cMakeFunc at h
  split at h
  · rename_i hk
    obtain ⟨rfl, hk⟩ := hk
    obtain rfl := Option.some.inj h
    have : fs' = [] := by cases fs' with | nil => rfl | cons _ _ => exact hf.elim
    subst this
    exact ⟨_, rfl, rfl, cs'.toArray, rfl, by simpa using all_V0 hk hc⟩
  · simp at h

/-! ### len -/

def cLen (P : Program) (t : TypeId) : Value → Option Value
  | .slice _ n _ => match ti P t with
    | some T => match T.desc with
      | .slice _ => some (.int .i64 n)
      | _ => none
    | none => none
  | _ => none

theorem len_sound {t ty : TypeId} {β : Names} {w : World} {x u v : Value} (hx : VT β x u) (h : cLen P t x = some v) : Pure P β w (Builtin.len_ #[t] ty #[u]) v := by
  obtain ⟨p, n, es, rfl⟩ : ∃ p n es, x = .slice p n es := by
    unfold cLen at h
    split at h
    · exact ⟨_, _, _, rfl⟩
    · simp at h
  simp only [cLen] at h
  split at h
  case h_2 => simp at h
  case h_1 T hT =>
    obtain ⟨d, ii, z, hd, hii, hz, e1, e2, e3, e4, e5⟩ := ti_some hT
    split at h
    case h_2 => simp at h
    case h_1 e hTe =>
      have := TD.of_slice (e1.symm.trans hTe)
      subst this
      obtain rfl := Option.some.inj h
      have : ∃ A c, u = .slice A n c := by
        cases p with
        | none => obtain ⟨rfl, ⟨_, rfl⟩ | ⟨_, A, rfl⟩ | ⟨_, A, c, rfl⟩⟩ := hx <;> exact ⟨_, _, rfl⟩
        | some p => obtain ⟨lc, c, _, _, _, _, rfl⟩ := hx; exact ⟨_, _, rfl⟩
      obtain ⟨A, c, rfl⟩ := this
      exact ⟨.int .i64 n, by simp [Builtin.len_, run_underlying hd, goInt], rfl⟩

/-! ### max, min -/

theorem max2_ok {w : World} (k : IntKind) (a b : Int) : (Builtin.max2 (.int k a) (.int k b)).run P w = .ok (.int k (max a b)) w := by
  simp only [Builtin.max2, Sem.run_pure]
  congr 2
  split <;> omega

theorem min2_ok {w : World} (k : IntKind) (a b : Int) : (Builtin.min2 (.int k a) (.int k b)).run P w = .ok (.int k (min a b)) w := by
  simp only [Builtin.min2, Sem.run_pure]
  congr 2
  split <;> omega

theorem ints_inv {β : Names} : ∀ {xs us : List Value}, All2 (VT β) xs us → (∀ x ∈ xs, ∃ k i, x = .int k i) → us = xs
  | [], [], _, _ => rfl
  | x :: xs, u :: us, h, hi => by
    obtain ⟨k, i, rfl⟩ := hi x (by simp)
    rw [int_inv h.1, ints_inv h.2 fun y hy => hi y (by simp [hy])]
  | [], _ :: _, h, _ => h.elim
  | _ :: _, [], h, _ => h.elim

theorem max_sound {ts : Array TypeId} {ty : TypeId} {β : Names} {w : World} {xs us : List Value} {v : Value} (hx : All2 (VT β) xs us) (h : cMax xs = some v) :
    Pure P β w (Builtin.max_ ts ty us.toArray) v := by
  have hus : us = xs := ints_inv hx (by
    unfold cMax at h
    split at h <;> first | (simp; done) | simp at h)
  subst hus
  unfold cMax at h
  split at h
  · rename_i k a
    obtain rfl := Option.some.inj h
    exact ⟨.int k a, rfl, rfl⟩
  · split at h <;> simp at h
    rename_i hk
    subst hk; subst h
    exact ⟨_, by simp [Builtin.max_, max2_ok], rfl⟩
  · split at h <;> simp at h
    rename_i hk
    obtain ⟨rfl, rfl⟩ := hk
    subst h
    exact ⟨_, by simp [Builtin.max_, max2_ok], rfl⟩
  · simp at h

theorem min_sound {ts : Array TypeId} {ty : TypeId} {β : Names} {w : World} {xs us : List Value} {v : Value} (hx : All2 (VT β) xs us) (h : cMin xs = some v) :
    Pure P β w (Builtin.min_ ts ty us.toArray) v := by
  have hus : us = xs := ints_inv hx (by
    unfold cMin at h
    split at h <;> first | (simp; done) | simp at h)
  subst hus
  unfold cMin at h
  split at h
  · rename_i k a
    obtain rfl := Option.some.inj h
    exact ⟨.int k a, rfl, rfl⟩
  · split at h <;> simp at h
    rename_i hk
    subst hk; subst h
    exact ⟨_, by simp [Builtin.min_, min2_ok], rfl⟩
  · split at h <;> simp at h
    rename_i hk
    obtain ⟨rfl, rfl⟩ := hk
    subst h
    exact ⟨_, by simp [Builtin.min_, min2_ok], rfl⟩
  · simp at h

end Go.Sep
/- append. -/
namespace Go.Sep
open Go
set_option linter.unusedVariables false
set_option linter.unusedSimpArgs false

variable {P : Program}

theorem Sat.same {β : Names} {H : Heap} {w w' : World} (h : Sat β H w) (e : w'.heap = w.heap) : Sat β H w' :=
  ⟨fun x b hx => let ⟨l, hl, hk⟩ := h.ok x b hx; ⟨l, hl, hk.world (by rw [e])⟩, h.sep⟩

/-- The cells that are appended. -/
def cTake (H : Heap) (sz : Nat) : Value → Option (Nat × List Value)
  | .slice _ 0 _ => some (0, [])
  | .slice (some b) m _ => match H b.block with
    | some (.cells _ cs) => if b.off + m * sz ≤ cs.length then some (m, (cs.drop b.off).take (m * sz)) else none
    | _ => none
  | _ => none

def cAppend (P : Program) (ts : Array TypeId) (H : Heap) (n : Nat) (s x : Value) : Option (Value × Heap × Nat) :=
  match ts[0]?, ts[1]? with
  | some t, some t1 => match ti P t, ti P t1 with
    | some T, some T1 => match T.desc, T1.desc with
      | .slice e, .slice _ => match ti P e with
        | some E => if E.bytes ≤ 2 ^ 16 ∧ E.zero.length = E.size ∧ 0 < E.size then match cTake H E.size x with
            | some (m, xs) => if m = 0 then match s with
                | .slice _ _ _ => some (s, H, n)
                | _ => none
              else match s with
                | .slice (some p) k es => match H p.block with
                  | some (.cells false cs) => if es = E.size ∧ p.off = 0 ∧ cs.length = k * es ∧ k + m ≤ 2 ^ 24 then
                      some (.slice (some ⟨n, 0, none⟩) (k + m) es, (H.del p.block).set n (.cells false (cs ++ xs)), n + 1) else none
                  | _ => none
                | .slice none _ 0 | .slice none _ 1 => if m ≤ 2 ^ 24 then some (.slice (some ⟨n, 0, none⟩) m E.size, H.set n (.cells false xs), n + 1) else none
                | _ => none
            | none => none
          else none
        | none => none
      | _, _ => none
    | _, _ => none
  | _, _ => none

theorem growBy_le (n : Nat) : ∀ (r c : Nat), Builtin.growBy n r c ≤ (c + 768) * 2 ^ r
  | 0, c => by simp [Builtin.growBy]
  | r + 1, c => by
    simp only [Builtin.growBy]
    split
    · calc c ≤ (c + 768) * 1 := by omega
        _ ≤ (c + 768) * 2 ^ (r + 1) := Nat.mul_le_mul_left _ (Nat.one_le_two_pow)
    · refine Nat.le_trans (growBy_le n r _) ?_
      rw [Nat.pow_succ, Nat.mul_comm (2 ^ r) 2, ← Nat.mul_assoc]
      exact Nat.mul_le_mul_right _ (by omega)

theorem nextcap_le {need cap : Nat} (h : cap < need) (hn : need ≤ 2 ^ 24) : Builtin.nextslicecap need cap ≤ 2 ^ 29 := by
  unfold Builtin.nextslicecap
  split
  · omega
  · split
    · omega
    · refine Nat.le_trans (growBy_le _ _ _) ?_
      have : cap + 768 ≤ 2 ^ 24 + 768 := by omega
      calc (cap + 768) * 2 ^ 4 ≤ (2 ^ 24 + 768) * 2 ^ 4 := Nat.mul_le_mul_right _ this
        _ ≤ 2 ^ 29 := by decide

/-- The slice that is appended, in the machine. -/
theorem take_sound {n : Nat} {β : Names} {H : Heap} {w : World} (hs : Sat β H w) {sz : Nat} {x u : Value} {m : Nat} {xs : List Value} (hx : VT β x u) (h : cTake H sz x = some (m, xs)) :
    Builtin.lenOf u = pure m ∧ xs.length = m * sz ∧ ∃ us : List Value, us.length = m * sz ∧ All2 (VC β) xs us ∧
      ∀ w', w'.heap = w.heap → (Builtin.firstCells sz m u).run P w' = .ok us.toArray w' := by
  unfold cTake at h
  split at h
  · rename_i p es
    simp only [Option.some.injEq, Prod.mk.injEq] at h
    obtain ⟨rfl, rfl⟩ := h
    have : ∃ A c, u = .slice A 0 c := by
      cases p with
      | none => obtain ⟨_, ⟨_, rfl⟩ | ⟨_, A, rfl⟩ | ⟨_, A, c, rfl⟩⟩ := hx <;> exact ⟨_, _, rfl⟩
      | some p => obtain ⟨lc, c, _, _, _, _, rfl⟩ := hx; exact ⟨_, _, rfl⟩
    obtain ⟨A, c, rfl⟩ := this
    refine ⟨rfl, by simp, [], by simp, trivial, fun w' _ => ?_⟩
    cases A <;> simp [Builtin.firstCells, loadCells, loadCellsFrom]
  · rename_i b m0 es hm0
    split at h
    case h_2 => simp at h
    case h_1 ro cs hH =>
      split at h
      case isFalse => simp at h
      case isTrue hk =>
        simp only [Option.some.injEq, Prod.mk.injEq] at h
        obtain ⟨rfl, rfl⟩ := h
        obtain ⟨lc, c', hl, _, _, _, rfl⟩ := hx
        obtain ⟨l, c, el, fz, hl', hc, hsz, hlen, hv, _⟩ := hs.cells hH
        rw [hl] at hl'
        obtain rfl := Option.some.inj hl'
        refine ⟨rfl, by simp; omega, ?_⟩
        have hall : ∃ us : List Value, us.length = m0 * sz ∧ All2 (VC β) ((cs.drop b.off).take (m0 * sz)) us ∧ ∀ w' : World, w'.heap = w.heap → (loadCells ⟨lc.blk, lc.base + b.off, none⟩ (m0 * sz)).run P w' = .ok us.toArray w' := by
          obtain ⟨us, h1, h2, h3⟩ := read_stretch (P := P) (β := β) hc hv b.off (m0 * sz) hk
          refine ⟨us, h1, h2, fun w' hw' => ?_⟩
          obtain ⟨us', h1', h2', h3'⟩ := read_stretch (P := P) (β := β) (w := w') (by rw [hw']; exact hc) hv b.off (m0 * sz) hk
          have hcell : ∀ j, j < m0 * sz → w'.cell? ((⟨lc.blk, lc.base + b.off, none⟩ : Addr).add j) = some ((c[lc.base + b.off + j]?).getD undef) := by
            intro j hj
            have hlt : b.off + j < cs.length := by omega
            obtain ⟨u, hu, _⟩ := hv (b.off + j) cs[b.off + j] (List.getElem?_eq_getElem hlt)
            have e : lc.base + (b.off + j) = lc.base + b.off + j := by omega
            rw [e] at hu
            rw [addr_add]
            simp only [hu, Option.getD_some]
            simp [World.cell?, hw', hc, hu]
          have hcell0 : ∀ j, j < m0 * sz → w.cell? ((⟨lc.blk, lc.base + b.off, none⟩ : Addr).add j) = some ((c[lc.base + b.off + j]?).getD undef) := by
            intro j hj
            rw [← hcell j hj]
            simp [World.cell?, hw']
          have r1 := run_loadCells (P := P) w' _ _ _ hcell
          have r0 := run_loadCells (P := P) w _ _ _ hcell0
          rw [h3] at r0
          have := (Result.ok.inj r0).1
          rw [r1, this]
        obtain ⟨us, h1, h2, h3⟩ := hall
        exact ⟨us, h1, h2, fun w' hw' => by simp only [Builtin.firstCells]; exact h3 w' hw'⟩
  · simp at h

theorem zeroCells_size (z : Array Value) (k : Nat) : (Builtin.zeroCells z k).size = k * z.size := by simp [Builtin.zeroCells]

theorem append_sound {ts : Array TypeId} {ty : TypeId} {n : Nat} {β : Names} {H H' : Heap} {w : World} (hs : Sat β H w) (hf : ∀ x, n ≤ x → β x = none) {s x u r v : Value} {n' : Nat}
    (hx : VT β s u) (hy : VT β x r) (h : cAppend P ts H n s x = some (v, H', n')) :
    ∃ q w' β', (Builtin.append_ ts ty #[u, r]).run P w = .ok q w' ∧ VT β' v q ∧ Sat β' H' w' ∧ n ≤ n' ∧ (∀ x, n' ≤ x → β' x = none) ∧ Grow n β H w β' H' w' := by
  unfold cAppend at h
  split at h
  case h_2 => simp at h
  case h_1 t t1 ht0 ht1 =>
    split at h
    case h_2 => simp at h
    case h_1 T T1 hT hT1 =>
      split at h
      case h_2 => simp at h
      case h_1 e e1 hTe hT1e =>
        split at h
        case h_2 => simp at h
        case h_1 E hE =>
          split at h
          case isFalse => simp at h
          case isTrue hk =>
            obtain ⟨k1, k2, k3⟩ := hk
            split at h
            case h_2 => simp at h
            case h_1 m xs hxs =>
              obtain ⟨d, ii, z, hd, hii, hz, f1, f2, f3, f4, f5⟩ := ti_some hT
              obtain ⟨d2, ii2, z2, hd2, hii2, hz2, g1, g2, g3, g4, g5⟩ := ti_some hT1
              obtain ⟨d', i', z', hd', hi', hz', e1', e2', e3', e4', _⟩ := ti_some hE
              have := TD.of_slice (f1.symm.trans hTe)
              subst this
              have := TD.of_slice (g1.symm.trans hT1e)
              subst this
              have hzs : z'.cells.size = i'.size := by rw [e4', e2'] at k2; simpa using k2
              obtain ⟨hlen, hxl, us, husl, hus, hfc⟩ := take_sound (P := P) (n := n) hs hy hxs
              rw [e2'] at husl hxl hfc
              have grows : ∀ (A : Option Addr) (k c : Nat) (os : List Value), c < k + m → k + m ≤ 2 ^ 24 → os.length = k * i'.size → (∀ w' : World, w'.heap = w.heap → (Builtin.firstCells i'.size k (.slice A k c)).run P w' = .ok os.toArray w') →
                  ∃ cap el, k + m ≤ cap ∧ (Builtin.append_ ts ty #[.slice A k c, r]).run P w = .ok (.slice (some ⟨w.heap.size, 0, none⟩) (k + m) cap) (w.drew.alloc (.cells (os.toArray ++ us.toArray ++ Builtin.zeroCells z'.cells (cap - (k + m))) el)) := by
                intro A k c os hlt hle hos hold
                let cap := (Question.appendCap (k + m) c e).cut (w.tape w.drawn (.appendCap (k + m) c e))
                have hcap : k + m ≤ cap := by simp only [cap, Question.cut]; omega
                refine ⟨cap, e, hcap, ?_⟩
                have h1 : ¬ (k + m ≤ c) := by omega
                have h2 : ¬ (((k + m : Nat) : Int) > IntKind.i64.max) := by
                  have : IntKind.i64.max = 2 ^ 63 - 1 := rfl
                  rw [this]; omega
                have h3 : ¬ (Builtin.nextslicecap (k + m) c * i'.bytes > 2 ^ 48) := by
                  have a1 := nextcap_le hlt hle
                  have a2 : Builtin.nextslicecap (k + m) c * i'.bytes ≤ 2 ^ 29 * 2 ^ 16 := Nat.mul_le_mul a1 (by rw [← e3']; exact k1)
                  have : 2 ^ 29 * 2 ^ 16 ≤ 2 ^ 48 := by decide
                  omega
                have hch : (choose (.appendCap (k + m) c e)).run P w = .ok cap w.drew := by
                  rfl
                have har : ∀ b w', (askRoom b).run P w' = .ok () w' := by
                  intro b w'
                  unfold askRoom
                  split <;> rfl
                have hnr : ∀ c' w', (newRow e c').run P w' = .ok ⟨w'.heap.size, 0, none⟩ (w'.alloc (.cells c' e)) := fun _ _ => rfl
                have ho := hold w.drew rfl
                have hn := hfc w.drew rfl
                simp only [Builtin.append_, ht0, ht1, Sem.run_bind, run_underlying hd, run_underlying hd2, run_size hi', Result.andThen_ok, List.getElem?_toArray, List.getElem?_cons_zero, List.getElem?_cons_succ,
                  Sem.run_pure, hlen, Bool.false_eq_true, if_false, Bool.not_false, if_true, false_or]
                rw [if_neg h1]
                simp only [Sem.run_bind, run_info hi', Result.andThen_ok]
                rw [if_neg (fun hh => h2 hh.1)]
                simp only [Sem.run_bind, run_info hi', Result.andThen_ok]
                rw [if_neg h3]
                simp only [Sem.run_bind, hch, Result.andThen_ok, run_info hi', har, ho, hn, Bool.not_false, if_true, run_zero hi' hz', hnr, Sem.run_pure]
                rfl
              -- a new block out of the old cells and the new ones
              have fresh : ∀ (A : Option Addr) (k c : Nat) (cs os : List Value), c < k + m → k + m ≤ 2 ^ 24 → os.length = k * i'.size → cs.length = k * i'.size → All2 (VC β) cs os →
                  (∀ w' : World, w'.heap = w.heap → (Builtin.firstCells i'.size k (.slice A k c)).run P w' = .ok os.toArray w') →
                  ∃ q w' β', (Builtin.append_ ts ty #[.slice A k c, r]).run P w = .ok q w' ∧ VT β' (.slice (some ⟨n, 0, none⟩) (k + m) i'.size) q ∧ Sat β' (H.set n (.cells false (cs ++ xs))) w' ∧
                    (∀ x, n + 1 ≤ x → β' x = none) ∧ Grow n β H w β' (H.set n (.cells false (cs ++ xs))) w' := by
                intro A k c cs os hlt hle hos hcs hco hold
                obtain ⟨cap, el, hcap, hrun⟩ := grows A k c os hlt hle hos hold
                have hsd : Sat β H w.drew := hs.same rfl
                have happ : All2 (VC β) (cs ++ xs) (os ++ us) := hco.append hus
                obtain ⟨β', _, hn, hle2, a1, a2, a3⟩ := newRow_sound (P := P) hsd hf (cs := cs ++ xs) (c := os.toArray ++ us.toArray ++ Builtin.zeroCells z'.cells (cap - (k + m))) el
                  (by simp; omega)
                  (fun i v hi => by
                    obtain ⟨u, hu, huv⟩ := happ.get i v hi
                    refine ⟨u, ?_, huv⟩
                    have hlt : i < (os ++ us).length := (List.getElem?_eq_some_iff.mp hu).1
                    rw [Array.getElem?_append_left (by simpa using hlt)]
                    simpa using hu)
                refine ⟨_, _, β', hrun, ⟨_, cap, hn, rfl, hcap, ?_, by simp⟩, a1, a2, ?_⟩
                · simp only [Array.size_append, List.size_toArray, zeroCells_size, hos, husl, hzs, Nat.zero_add]
                  have : k * i'.size + m * i'.size + (cap - (k + m)) * i'.size = cap * i'.size := by
                    rw [← Nat.add_mul, ← Nat.add_mul]; congr 1; omega
                  omega
                · exact ⟨a3.names, a3.os, a3.tape, a3.output, a3.size, a3.keep, a3.own, a3.dom⟩
              by_cases hm : m = 0
              · subst hm
                rw [if_pos rfl] at h
                split at h
                case h_2 => simp at h
                case h_1 p k es =>
                  simp only [Option.some.injEq, Prod.mk.injEq] at h
                  obtain ⟨rfl, rfl, rfl⟩ := h
                  have : ∃ A c, u = .slice A k c ∧ k ≤ c := by
                    cases p with
                    | none => obtain ⟨rfl, ⟨_, rfl⟩ | ⟨_, A, rfl⟩ | ⟨_, A, c, rfl⟩⟩ := hx <;> exact ⟨_, _, rfl, by omega⟩
                    | some p => obtain ⟨lc, c, _, _, hc, _, rfl⟩ := hx; exact ⟨_, _, rfl, hc⟩
                  obtain ⟨A, c, rfl, hkc⟩ := this
                  have hus0 : us = [] := List.length_eq_zero_iff.mp (by simpa using husl)
                  subst hus0
                  refine ⟨_, w, β, ?_, hx, hs, Nat.le_refl _, hf, Grow.refl _ _ hf⟩
                  simp only [Builtin.append_, ht0, ht1, Sem.run_bind, run_underlying hd, run_underlying hd2, run_size hi', Result.andThen_ok, List.getElem?_toArray, List.getElem?_cons_zero, List.getElem?_cons_succ,
                    Sem.run_pure, hlen, Bool.false_eq_true, if_false, Bool.not_false, if_true, false_or]
                  rw [if_pos (by omega)]
                  simp only [Sem.run_bind, hfc w rfl, Result.andThen_ok]
                  cases A <;> rfl
              · rw [if_neg hm] at h
                split at h
                case h_4 => simp at h
                case h_1 p k es =>
                  split at h
                  case h_2 => simp at h
                  case h_1 cs hH =>
                    split at h
                    case isFalse => simp at h
                    case isTrue hk =>
                      obtain ⟨c1, c2, c3, c4⟩ := hk
                      simp only [Option.some.injEq, Prod.mk.injEq] at h
                      obtain ⟨rfl, rfl, rfl⟩ := h
                      subst c1
                      rw [e2'] at c3 ⊢
                      obtain ⟨lc, c, hl, _, hkc, hfit, rfl⟩ := hx
                      obtain ⟨l, c0, el, fz, hl', hc0, hsz, hlen0, hv, hfz⟩ := hs.cells hH
                      rw [hl] at hl'
                      obtain rfl := Option.some.inj hl'
                      have := hfz rfl
                      subst this
                      rw [c2, e2'] at hfit
                      rw [c2]
                      have hxn : p.block ≠ n := fun e => by rw [e, hf n (Nat.le_refl _)] at hl; simp at hl
                      by_cases hroom : k + m ≤ c
                      · -- in its place
                        have hst := run_storeCells_at P lc.blk (lc.base + 0 + k * i'.size) el us 0 c0 w hc0 (by
                          have : (k + m) * i'.size ≤ c * i'.size := Nat.mul_le_mul_right _ hroom
                          rw [Nat.add_mul] at this
                          omega) hus.oneCell
                        have hfit2 : lc.base + (k * i'.size + m * i'.size) ≤ lc.size := by
                          have : (k + m) * i'.size ≤ c * i'.size := Nat.mul_le_mul_right _ hroom
                          rw [Nat.add_mul] at this
                          omega
                        obtain ⟨s1, s2⟩ := write_block hs hH hl (cs' := cs ++ xs) (c := (c0.toList.take (lc.base + 0 + k * i'.size + 0) ++ us ++ c0.toList.drop (lc.base + 0 + k * i'.size + 0 + us.length)).toArray)
                          (by simp; omega) (by simp; omega) (by
                            intro i v hi
                            have h1 : (c0.toList.take (lc.base + 0 + k * i'.size + 0)).length = lc.base + k * i'.size := by simp; omega
                            by_cases hik : i < k * i'.size
                            · rw [List.getElem?_append_left (by omega)] at hi
                              obtain ⟨u, hu, huv⟩ := hv i v hi
                              refine ⟨u, ?_, huv⟩
                              simp only [List.getElem?_toArray]
                              rw [List.append_assoc, List.getElem?_append_left (by omega), List.getElem?_take, if_pos (by omega)]
                              simpa using hu
                            · rw [List.getElem?_append_right (by omega), c3] at hi
                              obtain ⟨u, hu, huv⟩ := hus.get _ _ hi
                              have hlt := (List.getElem?_eq_some_iff.mp hu).1
                              refine ⟨u, ?_, huv⟩
                              simp only [List.getElem?_toArray]
                              rw [List.append_assoc, List.getElem?_append_right (by omega), List.getElem?_append_left (by omega), h1]
                              rw [show lc.base + i - (lc.base + k * i'.size) = i - k * i'.size by omega]
                              exact hu) n hf
                        obtain ⟨r1, r2, r3⟩ := rename_block hs hf hH hl s1 s2
                        refine ⟨.slice (some ⟨lc.blk, lc.base + 0, none⟩) (k + m) c, _, _, ?_, ?_, r1, Nat.le_succ _, r2, r3⟩
                        · simp only [Builtin.append_, ht0, ht1, Sem.run_bind, run_underlying hd, run_underlying hd2, run_size hi', Result.andThen_ok, List.getElem?_toArray, List.getElem?_cons_zero, List.getElem?_cons_succ,
                            Sem.run_pure, hlen, Bool.false_eq_true, if_false, Bool.not_false, if_true, false_or]
                          rw [if_pos hroom]
                          simp only [Sem.run_bind, hfc w rfl, Result.andThen_ok, addr_add, hst, Sem.run_pure]
                        · exact ⟨lc, c, Names.set_same _ _ _, rfl, hroom, by simp only []; omega, by simp⟩
                      · obtain ⟨os, o1, o2, o3⟩ := read_stretch (P := P) (β := β) hc0 hv 0 (k * i'.size) (by omega)
                        have hcs' : All2 (VC β) cs os := by rw [List.drop_zero, ← c3, List.take_length] at o2; exact o2
                        have hold : ∀ w' : World, w'.heap = w.heap → (Builtin.firstCells i'.size k (.slice (some ⟨lc.blk, lc.base + 0, none⟩) k c)).run P w' = .ok os.toArray w' := by
                          intro w' hw'
                          obtain ⟨os', o1', o2', o3'⟩ := read_stretch (P := P) (β := β) (w := w') (by rw [hw']; exact hc0) hv 0 (k * i'.size) (by omega)
                          have ex : ∀ w0 : World, w0.heap = w.heap → (loadCells ⟨lc.blk, lc.base + 0, none⟩ (k * i'.size)).run P w0 = .ok ((List.range (k * i'.size)).map fun j => (c0[lc.base + 0 + j]?).getD undef).toArray w0 := by
                            intro w0 hw0
                            refine run_loadCells (P := P) w0 _ _ _ fun j hj => ?_
                            have hlt : 0 + j < cs.length := by omega
                            obtain ⟨u, hu, _⟩ := hv (0 + j) cs[0 + j] (List.getElem?_eq_getElem hlt)
                            have e : lc.base + (0 + j) = lc.base + 0 + j := by omega
                            rw [e] at hu
                            rw [addr_add]
                            simp only [hu, Option.getD_some]
                            have hu' : c0[lc.base + j]? = some u := by simpa using hu
                            simp [World.cell?, hw0, hc0, hu']
                          have r0 := ex w rfl
                          rw [o3] at r0
                          have := (Result.ok.inj r0).1
                          simp only [Builtin.firstCells]
                          rw [ex w' hw', this]
                        obtain ⟨q, w', β', f1, f2, f3, f4, f5⟩ := fresh (some ⟨lc.blk, lc.base + 0, none⟩) k c cs os (by omega) c4 o1 c3 hcs' hold
                        have hsub : ((H.del p.block).set n (.cells false (cs ++ xs))).le (H.set n (.cells false (cs ++ xs))) := by
                          intro y b hy
                          by_cases e : y = n
                          · subst e; rw [Heap.set_same] at hy ⊢; exact hy
                          · rw [Heap.set_ne _ _ e] at hy ⊢
                            unfold Heap.del at hy
                            split at hy
                            · simp at hy
                            · exact hy
                        exact ⟨q, w', β', f1, f2, f3.le hsub, Nat.le_succ _, f4, f5.weaken (Heap.le.refl _) hsub⟩
                all_goals
                  split at h
                  case isFalse => simp at h
                  case isTrue hm24 =>
                    simp only [Option.some.injEq, Prod.mk.injEq] at h
                    obtain ⟨rfl, rfl, rfl⟩ := h
                    have hA : ∃ A, u = .slice A 0 0 := by
                      obtain ⟨rfl, ⟨_, rfl⟩ | ⟨_, A, rfl⟩ | ⟨h2, A, c, rfl⟩⟩ := hx
                      · exact ⟨_, rfl⟩
                      · exact ⟨_, rfl⟩
                      · simp at h2
                    obtain ⟨A, rfl⟩ := hA
                    obtain ⟨q, w', β', f1, f2, f3, f4, f5⟩ := fresh A 0 0 [] [] (by omega) (by omega) (by simp) (by simp) trivial (fun w' _ => by
                      cases A <;> simp [Builtin.firstCells, loadCells, loadCellsFrom])
                    rw [e2']
                    simp only [Nat.zero_add, List.nil_append] at f2 f3 f5
                    exact ⟨q, w', β', f1, f2, f3, Nat.le_succ _, f4, f5⟩

end Go.Sep
/- Each operation: clear of a slice of single cells. -/
namespace Go.Sep
open Go
set_option linter.unusedVariables false
set_option linter.unusedSimpArgs false

variable {P : Program}

def cClear (P : Program) (tys : Array TypeId) (H : Heap) : Value → Option Heap
  | .slice (some a) k es => match tys[0]? with
    | some t => match ti P t with
      | some T => match T.desc with
        | .slice e => match ti P e, H a.block with
          | some E, some (.cells false cs) => match E.zero with
            | [z] => if E.size = 1 ∧ konst0 z = true ∧ a.off + k ≤ cs.length ∧ es = 1 then some (H.set a.block (.cells false (putC cs a.off (List.replicate k z)))) else none
            | _ => none
          | _, _ => none
        | _ => none
      | none => none
    | none => none
  | .slice none _ _ => match tys[0]? with
    | some t => match ti P t with
      | some _ => some H
      | none => none
    | none => none
  | _ => none

theorem zeroCells_one (z : Value) (k : Nat) : (Builtin.zeroCells #[z] k).toList = List.replicate k z := by
  refine List.ext_getElem (by simp [Builtin.zeroCells]) fun i h1 h2 => ?_
  simp [Builtin.zeroCells, Nat.mod_one]

theorem clear_sound {ts : Array TypeId} {ty : TypeId} {n : Nat} {β : Names} {H H' : Heap} {w : World} (hs : Sat β H w) (hf : ∀ x, n ≤ x → β x = none) {s u : Value}
    (hx : VT β s u) (h : cClear P ts H s = some H') :
    ∃ w', (Builtin.clear_ ts ty #[u]).run P w = .ok (.tuple #[]) w' ∧ Sat β H' w' ∧ Grow n β H w β H' w' := by
  unfold cClear at h
  split at h
  case h_3 => simp at h
  case h_2 m e =>
    split at h
    case h_2 => simp at h
    case h_1 t ht =>
      split at h
      case h_2 => simp at h
      case h_1 T hT =>
        obtain rfl := Option.some.inj h
        obtain ⟨d, ii, zz, hd, hii, hzz, f1, f2, f3, f4, f5⟩ := ti_some hT
        have hu : ∃ A c, u = .slice A 0 c := by
          obtain ⟨_, hh⟩ := hx
          rcases hh with ⟨_, rfl⟩ | ⟨_, A, rfl⟩ | ⟨_, A, c, rfl⟩
          · exact ⟨_, _, rfl⟩
          · exact ⟨_, _, rfl⟩
          · exact ⟨_, _, rfl⟩
        obtain ⟨A, c, rfl⟩ := hu
        refine ⟨w, ?_, hs, Grow.refl _ _ hf⟩
        cases A <;> simp [Builtin.clear_, ht, run_underlying hd]
  case h_1 a k es =>
    split at h
    case h_2 => simp at h
    case h_1 t ht =>
      split at h
      case h_2 => simp at h
      case h_1 T hT =>
        split at h
        case h_2 => simp at h
        case h_1 e hTe =>
          split at h
          case h_2 => simp at h
          case h_1 E cs hE hH =>
            split at h
            case h_2 => simp at h
            case h_1 z hz0 =>
              split at h
              case isFalse => simp at h
              case isTrue hk =>
                obtain ⟨k1, k2, k3, rfl⟩ := hk
                obtain rfl := Option.some.inj h
                obtain ⟨d, ii, zz, hd, hii, hzz, f1, f2, f3, f4, f5⟩ := ti_some hT
                obtain ⟨d', i', z', hd', hi', hz', e1', e2', e3', e4', _⟩ := ti_some hE
                have := TD.of_slice (f1.symm.trans hTe)
                subst this
                obtain ⟨l, c, el, fz, hl, hc, hsz, hlen, hcv, hfz⟩ := hs.cells hH
                have := hfz rfl
                subst this
                obtain ⟨l', cp, hl', _, hn, hfit, rfl⟩ := hx
                rw [hl] at hl'
                obtain rfl := Option.some.inj hl'
                have hzc : z'.cells = #[z] := by
                  rw [hz0] at e4'
                  exact (Array.toList_inj.mp (by simpa using e4'.symm))
                have hzv : VC β z z := by
                  have := konst0_All2 (β := β) (l := [z]) (by simpa using k2)
                  exact this.1
                have hrep : All2 (VC β) (List.replicate k z) (List.replicate k z) := All2.of_get rfl fun i v hi => ⟨v, hi, by
                  have := List.mem_of_getElem? hi
                  rw [(List.mem_replicate.mp this).2]; exact hzv⟩
                rcases Nat.eq_zero_or_pos k with h0 | h0
                · subst h0
                  refine ⟨w, by simp [Builtin.clear_, ht, run_underlying hd], ?_⟩
                  have : H.set a.block (.cells false (putC cs a.off (List.replicate 0 z))) = H := by
                    funext y
                    unfold Heap.set
                    split
                    · rename_i e; subst e; rw [hH, putC_eq (by simp; omega)]; simp
                    · rfl
                  rw [this]
                  exact ⟨hs, Grow.refl _ _ hf⟩
                · have hrun := run_storeCells_at P l.blk (l.base + a.off) el (List.replicate k z) 0 c w hc (by simp; omega) hrep.oneCell
                  simp only [Nat.add_zero] at hrun
                  have hrun2 : (Builtin.clear_ ts ty #[.slice (some ⟨l.blk, l.base + a.off, none⟩) k cp]).run P w = .ok (.tuple #[]) (w.setRow l.blk (c.toList.take (l.base + a.off) ++ List.replicate k z ++ c.toList.drop (l.base + a.off + (List.replicate k z).length)).toArray) := by
                    obtain ⟨k', rfl⟩ : ∃ k', k = k' + 1 := ⟨k - 1, by omega⟩
                    rw [List.append_assoc] at hrun ⊢
                    simp only [List.length_replicate] at hrun ⊢
                    simp [Builtin.clear_, ht, run_underlying hd, run_zero hi' hz', hzc, zeroCells_one, hrun]
                  refine ⟨_, hrun2, ?_⟩
                  have hfit2 : a.off + (List.replicate k z).length ≤ cs.length := by simp; omega
                  refine write_block hs hH hl ?_ ?_ ?_ n hf
                  · simp; omega
                  · rw [putC_length hfit2]; exact hlen
                  · rw [putC_eq hfit2]
                    intro i v hi
                    have hg := splice_get (β := β) (c := c.toList) (base := l.base) (off := a.off) (fun i v hi => by simpa using hcv i v hi) hrep (by simp; omega) hfit2 i v hi
                    obtain ⟨u, hu, huv⟩ := hg
                    exact ⟨u, by simpa using hu, huv⟩
end Go.Sep
/- Each operation: maps whose keys are whole numbers. -/
namespace Go.Sep
open Go
set_option linter.unusedVariables false
set_option linter.unusedSimpArgs false

variable {P : Program}

def zeroOf (P : Program) (t : TypeId) : Option Value :=
  match P.info? t with
  | some i => i.zero
  | none => none

theorem zeroOf_run {t : TypeId} {z : Value} (h : zeroOf P t = some z) (w : World) : (zeroValue t).run P w = .ok z w := by
  unfold zeroOf at h
  split at h
  · rename_i i hi; exact run_zero hi h w
  · simp at h

/-- Where a whole number stands among the keys. -/
def mapFind (k : IntKind) (a : Int) : List (Value × Value) → Nat → Option (Option (Nat × Value))
  | [], _ => some none
  | (.int k' b, v) :: r, i => if k = k' then (if a = b then some (some (i, v)) else mapFind k a r (i + 1)) else none
  | _ :: _, _ => none

abbrev EntRel (β : Names) (p : Value × Value) (q : MapEntry) : Prop := VC β p.1 q.key ∧ VC β p.2 q.val

def FindRel (β : Names) : Option (Nat × Value) → Option (Nat × Value) → Prop
  | none, none => True
  | some (j, v), some (j', u) => j = j' ∧ VC β v u
  | _, _ => False

theorem find_sound {β : Names} {kk k : IntKind} {a : Int} : ∀ {es : List (Value × Value)} {l : List MapEntry} {i : Nat} {r : Option (Nat × Value)}, All2 (EntRel β) es l → mapFind k a es i = some r →
    ∃ r', Instr.findNow (.int kk) (.int k a) l i = some r' ∧ FindRel β r r'
  | [], [], i, r, _, h => by simp [mapFind] at h; subst h; exact ⟨none, rfl, trivial⟩
  | (key, v) :: es, e :: l, i, r, hr, h => by
    cases key with
    | int k' b =>
      simp only [mapFind] at h
      have hk : Value.int k' b = e.key := hr.1.1
      have hv : VC β v e.val := hr.1.2
      split at h
      · rename_i hkk
        subst hkk
        split at h
        · rename_i hab
          subst hab
          obtain rfl := Option.some.inj h
          exact ⟨some (i, e.val), by simp [Instr.findNow, Instr.sameNow, ← hk], rfl, hv⟩
        · rename_i hab
          obtain ⟨r', h1, h2⟩ := find_sound (kk := kk) hr.2 h
          exact ⟨r', by simp [Instr.findNow, Instr.sameNow, ← hk, beq_eq_false_iff_ne.mpr hab, h1], h2⟩
      · simp at h
    | _ => simp [mapFind] at h
  | [], _ :: _, _, _, hr, _ => hr.elim
  | _ :: _, [], _, _, hr, _ => hr.elim

theorem find_key {k : IntKind} {a : Int} : ∀ {es : List (Value × Value)} {i j : Nat} {v : Value}, mapFind k a es i = some (some (j, v)) → i ≤ j ∧ (es[j - i]?).map (·.1) = some (.int k a)
  | [], i, j, v, h => by simp [mapFind] at h
  | (key, u) :: es, i, j, v, h => by
    cases key with
    | int k' b =>
      simp only [mapFind] at h
      split at h
      · rename_i hkk
        subst hkk
        split at h
        · rename_i hab
          subst hab
          simp at h
          obtain ⟨rfl, rfl⟩ := h
          exact ⟨Nat.le_refl _, by simp⟩
        · obtain ⟨h1, h2⟩ := find_key h
          refine ⟨by omega, ?_⟩
          rw [show j - i = (j - (i + 1)) + 1 by omega]
          simpa using h2
      · simp at h
    | _ => simp [mapFind] at h

theorem run_check_int {t : TypeId} {kk : IntKind} (ht : P.underlying t = some (.int kk)) (e : Bool) (v : Value) (w : World) : (Instr.checkKey e 10000 t v).run P w = .ok () w := by
  unfold Instr.checkKey
  simp [run_underlying ht]

theorem run_find_int {β : Names} {t : TypeId} {kk k : IntKind} {a : Int} (ht : P.underlying t = some (.int kk)) {es : List (Value × Value)} {l : List MapEntry} {r : Option (Nat × Value)} (hr : All2 (EntRel β) es l) (h : mapFind k a es 0 = some r) (w : World) :
    ∃ r', (Instr.findKey t (.int k a) l).run P w = .ok r' w ∧ FindRel β r r' := by
  obtain ⟨r', h1, h2⟩ := find_sound (kk := kk) hr h
  exact ⟨r', by simp [Instr.findKey, run_underlying ht, h1], h2⟩

theorem Sat.map {β : Names} {H : Heap} {w : World} (hs : Sat β H w) {x : Nat} {es : List (Value × Value)} (hx : H x = some (.map es)) :
    ∃ l arr clk, β x = some l ∧ w.heap[l.blk]? = some (.map arr clk) ∧ All2 (EntRel β) es arr.toList := by
  obtain ⟨l, hl, arr, clk, h⟩ := hs.ok x _ hx
  exact ⟨l, arr, clk, hl, h⟩

def cMakeMap (P : Program) (t : TypeId) (H : Heap) (n : Nat) : Option (Value × Heap × Nat) := some (.map (some n), H.set n (.map []), n + 1)

theorem makeMap_sound {n : Nat} {β : Names} {H : Heap} {w : World} (hs : Sat β H w) (hf : ∀ x, n ≤ x → β x = none) (t : TypeId) :
    ∃ q w' β', (Instr.makeMap t none).run P w = .ok q w' ∧ VT β' (.map (some n)) q ∧ Sat β' (H.set n (.map [])) w' ∧ n ≤ n + 1 ∧ (∀ x, n + 1 ≤ x → β' x = none) ∧ Grow n β H w β' (H.set n (.map [])) w' := by
  have hb : BlkOk β (w.alloc (.map #[] 0)) ⟨w.heap.size, 0, 0⟩ (.map []) := ⟨#[], 0, heap_alloc_new, trivial⟩
  obtain ⟨h1, h2, h3⟩ := new_block hs hf hb
  refine ⟨.map (some w.heap.size), _, β.set n ⟨w.heap.size, 0, 0⟩, ?_, ⟨_, Names.set_same _ _ _, rfl⟩, h1, Nat.le_succ _, h2, h3⟩
  rfl

def cLookup (P : Program) (t : TypeId) (ok : Bool) (H : Heap) (x key : Value) : Option Value :=
  match ti P t with
  | some T => match T.desc with
    | .map kt et => match ti P kt, zeroOf P et, key, x with
      | some K, some z, .int k a, .map (some r) => match K.desc, H r with
        | .int _, some (.map es) => if konst z then match mapFind k a es 0 with
            | some (some (_, v)) => some (if ok then .tuple #[v, .bool true] else v)
            | some none => some (if ok then .tuple #[z, .bool false] else z)
            | none => none
          else none
        | _, _ => none
      | _, _, _, _ => none
    | _ => none
  | none => none

theorem TD.of_int' {d : TypeDesc} {k : IntKind} (h : TD.of d = .int k) : d = .int k := by
  cases d <;> simp [TD.of] at h
  subst h; rfl

theorem cLookup_congr {t : TypeId} {ok : Bool} {G H : Heap} {x k : Value} (h : ∀ r, x = .map (some r) → G r = H r) : cLookup P t ok G x k = cLookup P t ok H x k := by
  unfold cLookup
  cases ti P t with
  | none => rfl
  | some T =>
    simp only []
    cases T.desc with
    | map kt et =>
      simp only []
      cases ti P kt with
      | none => rfl
      | some K =>
        cases zeroOf P et with
        | none => rfl
        | some z => cases k with
          | int kk a => cases x with
            | map r => cases r with
              | none => rfl
              | some r => simp only []; rw [h r rfl]
            | _ => rfl
          | _ => rfl
    | _ => rfl

theorem map_inv {β : Names} {r : Nat} {u : Value} (h : VT β (.map (some r)) u) : ∃ l, β r = some l ∧ u = .map (some l.blk) := h

theorem lookup_sound {t : TypeId} {ok : Bool} {β : Names} {H : Heap} {w : World} (hs : Sat β H w) {x key u q v : Value}
    (hx : VT β x u) (hk : VT β key q) (h : cLookup P t ok H x key = some v) : ∃ r, (Instr.lookup t u q ok).run P w = .ok r w ∧ VT β v r := by
  unfold cLookup at h
  split at h
  case h_2 => simp at h
  case h_1 T hT =>
    split at h
    case h_2 => simp at h
    case h_1 kt et hTd =>
      split at h
      case h_2 => simp at h
      case h_1 K z k a r hK hz =>
        split at h
        case h_2 => simp at h
        case h_1 kk es hKd hH =>
          split at h
          case isFalse => simp at h
          case isTrue hkz =>
            obtain ⟨d, ii, zz, hd, hii, hzz, f1, f2, f3, f4, f5⟩ := ti_some hT
            obtain ⟨d', i', z', hd', hi', hz', e1', e2', e3', e4', _⟩ := ti_some hK
            have hdm := TD.of_map (f1.symm.trans hTd)
            have hdk := TD.of_int' (e1'.symm.trans hKd)
            subst hdm; subst hdk
            obtain ⟨l, hl, rfl⟩ := map_inv hx
            obtain ⟨l', arr, clk, hl', hc, hes⟩ := hs.map hH
            rw [hl] at hl'
            obtain rfl := Option.some.inj hl'
            have hq : q = .int k a := by have : Value.int k a = q := hk; exact this.symm
            subst hq
            split at h
            case h_3 => simp at h
            case h_1 j v' hf =>
              obtain rfl := Option.some.inj h
              obtain ⟨r', h1, h2⟩ := run_find_int (P := P) hd' hes hf w
              obtain ⟨j', u, rfl, rfl, hu⟩ : ∃ j' u, r' = some (j', u) ∧ j = j' ∧ VC β v' u := by
                cases r' with
                | none => exact h2.elim
                | some p => exact ⟨p.1, p.2, rfl, h2.1, h2.2⟩
              refine ⟨if ok then .tuple #[u, .bool true] else u, ?_, ?_⟩
              · simp [Instr.lookup, run_underlying hd, MapKept.run_getObj_map hc, run_check_int hd', h1]
              · cases ok
                · exact VT.of_VA (VA.of_VC hu)
                · exact ⟨_, rfl, VA.of_VC hu, VA.of_VC (show VC β (.bool true) (.bool true) from rfl), trivial⟩
            case h_2 hf =>
              obtain rfl := Option.some.inj h
              obtain ⟨r', h1, h2⟩ := run_find_int (P := P) hd' hes hf w
              obtain rfl : r' = none := by
                cases r' with
                | none => rfl
                | some p => exact h2.elim
              refine ⟨if ok then .tuple #[z, .bool false] else z, ?_, ?_⟩
              · simp [Instr.lookup, run_underlying hd, MapKept.run_getObj_map hc, run_check_int hd', h1, zeroOf_run hz]
              · have hzv : VA β z z := konst_VA hkz
                cases ok
                · exact VT.of_VA hzv
                · exact ⟨_, rfl, hzv, VA.of_VC (show VC β (.bool false) (.bool false) from rfl), trivial⟩

/-- What a map's entries become. -/
def mapPut (k : IntKind) (a : Int) (v : Value) (es : List (Value × Value)) : Option (List (Value × Value)) :=
  match mapFind k a es 0 with
  | some (some (i, _)) => some (es.set i (.int k a, v))
  | some none => some (es ++ [(.int k a, v)])
  | none => none

def cMapUpdate (P : Program) (t : TypeId) (H : Heap) (x key v : Value) : Option Heap :=
  match ti P t with
  | some T => match T.desc with
    | .map kt et => match ti P kt, key, x with
      | some K, .int k a, .map (some r) => match K.desc, H r with
        | .int _, some (.map es) => match v with
          | .agg _ => none
          | .tuple _ => none
          | v => match mapPut k a v es with
            | some es' => some (H.set r (.map es'))
            | none => none
        | _, _ => none
      | _, _, _ => none
    | _ => none
  | none => none

theorem set_other {w : World} {g k : Nat} {o : Obj} (h : k ≠ g) : ({ w with heap := w.heap.setIfInBounds g o } : World).heap[k]? = w.heap[k]? := by
  simp [Array.getElem?_setIfInBounds, Ne.symm h]

/-- An owned map is written; the block keeps its name. -/
theorem write_map {β : Names} {H : Heap} {w : World} {x : Nat} {es es' : List (Value × Value)} {l : Loc} {arr arr' : Array MapEntry} {clk clk' : Nat} (hs : Sat β H w)
    (hx : H x = some (.map es)) (hl : β x = some l) (hc : w.heap[l.blk]? = some (.map arr clk)) (he : All2 (EntRel β) es' arr'.toList) (n : Nat) (hf : ∀ x, n ≤ x → β x = none) :
    Sat β (H.set x (.map es')) { w with heap := w.heap.setIfInBounds l.blk (.map arr' clk') } ∧ Grow n β H w β (H.set x (.map es')) { w with heap := w.heap.setIfInBounds l.blk (.map arr' clk') } := by
  have hlt : l.blk < w.heap.size := (Array.getElem?_eq_some_iff.mp hc).1
  refine ⟨⟨?_, ?_⟩, ?_⟩
  · intro y b hy
    by_cases e : y = x
    · subst e
      rw [Heap.set_same] at hy
      obtain rfl := Option.some.inj hy
      exact ⟨l, hl, arr', clk', by simp [Array.getElem?_setIfInBounds, hlt], he⟩
    · rw [Heap.set_ne _ _ e] at hy
      obtain ⟨m, hm, hk⟩ := hs.ok y b hy
      refine ⟨m, hm, hk.world (set_other ?_)⟩
      exact fun e' => (hs.sep x y _ b l m (fun e2 => e e2.symm) hx hy rfl hl hm) e'.symm
  · intro y z b1 b2 m1 m2 hyz hy hz hrw hm1 hm2
    have key : ∀ y b, H.set x (.map es') y = some b → ∃ b', H y = some b' ∧ b'.rw = b.rw := by
      intro y b hy
      by_cases e : y = x
      · subst e; rw [Heap.set_same] at hy; obtain rfl := Option.some.inj hy; exact ⟨_, hx, rfl⟩
      · rw [Heap.set_ne _ _ e] at hy; exact ⟨b, hy, rfl⟩
    obtain ⟨b1', hy', e1⟩ := key y b1 hy
    obtain ⟨b2', hz', e2⟩ := key z b2 hz
    exact hs.sep y z b1' b2' m1 m2 hyz hy' hz' (e1.trans hrw) hm1 hm2
  · refine ⟨fun _ _ => rfl, rfl, rfl, rfl, by simp, ?_, ?_, ?_⟩
    · intro k hk ho
      refine set_other fun e => ho ⟨x, _, l, hx, rfl, hl, e.symm⟩
    · rintro k ⟨y, b, m, hy, hrw, hm, rfl⟩
      by_cases e : y = x
      · subst e; exact .inl ⟨y, _, m, hx, rfl, hm, rfl⟩
      · rw [Heap.set_ne _ _ e] at hy; exact .inl (Has.own hf ⟨y, b, m, hy, hrw, hm, rfl⟩)
    · intro y hy h2
      by_cases e : y = x
      · subst e; rw [hx]; simp
      · rwa [Heap.set_ne _ _ e] at h2

theorem All2.set {α γ : Type} {R : α → γ → Prop} {a : α} {b : γ} (hab : R a b) : ∀ {l : List α} {m : List γ} (i : Nat), All2 R l m → All2 R (l.set i a) (m.set i b)
  | [], [], _, _ => trivial
  | _ :: _, _ :: _, 0, h => ⟨hab, h.2⟩
  | _ :: _, _ :: _, i + 1, h => ⟨h.1, All2.set hab i h.2⟩
  | [], _ :: _, _, h => h.elim
  | _ :: _, [], _, h => h.elim

theorem mapUpdate_sound {t : TypeId} {n : Nat} {β : Names} {H H' : Heap} {w : World} (hs : Sat β H w) (hf : ∀ x, n ≤ x → β x = none) {x key v u q p : Value}
    (hx : VT β x u) (hk : VT β key q) (hv : VA β v p) (h : cMapUpdate P t H x key v = some H') :
    ∃ w', (Instr.mapUpdate t u q p).run P w = .ok () w' ∧ Sat β H' w' ∧ Grow n β H w β H' w' := by
  unfold cMapUpdate at h
  split at h
  case h_2 => simp at h
  case h_1 T hT =>
    split at h
    case h_2 => simp at h
    case h_1 kt et hTd =>
      split at h
      case h_2 => simp at h
      case h_1 K k a r hK =>
        split at h
        case h_2 => simp at h
        case h_1 kk es hKd hH =>
          have hvc : VC β v p ∧ (∃ es', mapPut k a v es = some es' ∧ H.set r (.map es') = H') := by
            split at h
            · simp at h
            · simp at h
            · rename_i hn1 hn2
              split at h
              · rename_i es' he
                refine ⟨?_, es', he, Option.some.inj h⟩
                cases v <;> first | exact hv | exact (hn1 _ rfl).elim | exact (hn2 _ rfl).elim
              · simp at h
          obtain ⟨hvc, es', hput, rfl⟩ := hvc
          obtain ⟨d, ii, zz, hd, hii, hzz, f1, f2, f3, f4, f5⟩ := ti_some hT
          obtain ⟨d', i', z', hd', hi', hz', e1', e2', e3', e4', _⟩ := ti_some hK
          have hdm := TD.of_map (f1.symm.trans hTd)
          have hdk := TD.of_int' (e1'.symm.trans hKd)
          subst hdm; subst hdk
          obtain ⟨l, hl, rfl⟩ := map_inv hx
          obtain ⟨l', arr, clk, hl', hc, hes⟩ := hs.map hH
          rw [hl] at hl'
          obtain rfl := Option.some.inj hl'
          have hq : q = .int k a := by have : Value.int k a = q := hk; exact this.symm
          subst hq
          unfold mapPut at hput
          split at hput
          case h_3 => simp at hput
          case h_1 j v' hfd =>
            obtain rfl := Option.some.inj hput
            obtain ⟨r', h1, h2⟩ := run_find_int (P := P) hd' hes hfd w
            obtain ⟨j', u, rfl, rfl, hu⟩ : ∃ j' u, r' = some (j', u) ∧ j = j' ∧ VC β v' u := by
              cases r' with
              | none => exact h2.elim
              | some p => exact ⟨p.1, p.2, rfl, h2.1, h2.2⟩
            obtain ⟨_, hkey⟩ := find_key hfd
            rw [Nat.sub_zero] at hkey
            cases hje : es[j]? with
            | none => rw [hje] at hkey; simp at hkey
            | some e0 =>
              rw [hje] at hkey
              simp at hkey
              obtain ⟨e, hae, heR⟩ := hes.get j e0 hje
              have hae' : arr[j]? = some e := by simpa using hae
              have hek : e.key = .int k a := by have := heR.1; rw [hkey] at this; exact (show Value.int k a = e.key from this).symm
              have hstay : (Instr.keyThatStays (.int k a) (.int k a)).run P w = .ok (.int k a) w := by simp [Instr.keyThatStays, Instr.sameBits]
              have hall : All2 (EntRel β) (es.set j (.int k a, v)) (arr.modify j fun e => { e with key := .int k a, val := p }).toList := by
                have e1 : (arr.modify j fun e => { e with key := .int k a, val := p }).toList = arr.toList.set j { e with key := .int k a, val := p } := by
                  refine List.ext_getElem? fun i => ?_
                  simp only [Array.getElem?_toList, Array.getElem?_modify, List.getElem?_set, Array.length_toList]
                  by_cases hij : j = i
                  · subst hij
                    have hlt : j < arr.size := (Array.getElem?_eq_some_iff.mp hae').1
                    have hje : arr[j] = e := by simpa [hlt] using hae'
                    simp [hlt, hje]
                  · simp [hij]
                rw [e1]
                exact All2.set ⟨rfl, hvc⟩ j hes
              obtain ⟨g1, g2⟩ := write_map (arr' := arr.modify j fun e => { e with key := .int k a, val := p }) (clk' := clk) hs hH hl hc hall n hf
              refine ⟨_, ?_, g1, g2⟩
              simp [Instr.mapUpdate, run_underlying hd, MapKept.run_getObj_map hc, run_check_int hd', h1, hae', hek, hstay, MapKept.run_setObj_map _ hc]
          case h_2 hfd =>
            obtain rfl := Option.some.inj hput
            obtain ⟨r', h1, h2⟩ := run_find_int (P := P) hd' hes hfd w
            obtain rfl : r' = none := by
              cases r' with
              | none => rfl
              | some p => exact h2.elim
            have hall : All2 (EntRel β) (es ++ [(.int k a, v)]) (arr.push { key := .int k a, val := p, born := clk }).toList := by
              rw [Array.toList_push]
              exact All2.append hes ⟨⟨rfl, hvc⟩, trivial⟩
            obtain ⟨g1, g2⟩ := write_map (arr' := arr.push { key := .int k a, val := p, born := clk }) (clk' := clk + 1) hs hH hl hc hall n hf
            refine ⟨_, ?_, g1, g2⟩
            simp [Instr.mapUpdate, run_underlying hd, MapKept.run_getObj_map hc, run_check_int hd', h1, MapKept.run_setObj_map _ hc]

end Go.Sep
/- One operation that calls no Go function: canonical, and that the machine does the same. -/
namespace Go.Sep
open Go
set_option linter.unusedVariables false
set_option linter.unusedSimpArgs false

variable {P : Program}

def evs (ts : Temps) : List Operand → Option (List Value)
  | [] => some []
  | x :: xs => match ev ts x, evs ts xs with
    | some v, some vs => some (v :: vs)
    | _, _ => none

def evParts (ts : Temps) : List (Nat × Operand) → Option (List (Nat × Value))
  | [] => some []
  | (i, x) :: xs => match ev ts x, evParts ts xs with
    | some v, some vs => some ((i, v) :: vs)
    | _, _ => none

def evO (ts : Temps) : Option Operand → Option (Option Value)
  | none => some none
  | some x => match ev ts x with
    | some v => some (some v)
    | none => none

def isTuple : Value → Bool
  | .tuple _ => true
  | _ => false

theorem VT.toVA {β : Names} {v u : Value} (h : VT β v u) (ht : isTuple v = false) : VA β v u := by
  cases v <;> first | exact h | simp [isTuple] at ht

theorem evs_rel {N : Nat} {β : Names} {s : St} {a : Act} {w : World} (hr : Rel N β s a w) : ∀ {xs : List Operand} {vs : List Value}, evs s.ts xs = some vs → All2 (VT β) vs (xs.map a.eval)
  | [], vs, h => by simp [evs] at h; subst h; trivial
  | x :: xs, vs, h => by
    simp only [evs] at h
    split at h
    · rename_i v vs' hv hvs
      obtain rfl := Option.some.inj h
      exact ⟨ev_rel hr hv, evs_rel hr hvs⟩
    · simp at h

theorem evParts_rel {N : Nat} {β : Names} {s : St} {a : Act} {w : World} (hr : Rel N β s a w) : ∀ {xs : List (Nat × Operand)} {vs : List (Nat × Value)}, evParts s.ts xs = some vs →
    (vs.all fun p => !isTuple p.2) = true → All2 (fun (p q : Nat × Value) => p.1 = q.1 ∧ VA β p.2 q.2) vs (xs.map fun (i, x) => (i, a.eval x))
  | [], vs, h, _ => by simp [evParts] at h; subst h; trivial
  | (i, x) :: xs, vs, h, ht => by
    simp only [evParts] at h
    split at h
    · rename_i v vs' hv hvs
      obtain rfl := Option.some.inj h
      simp at ht
      exact ⟨⟨rfl, (ev_rel hr hv).toVA ht.1⟩, evParts_rel hr hvs (by simpa using ht.2)⟩
    · simp at h

theorem evO_rel {N : Nat} {β : Names} {s : St} {a : Act} {w : World} (hr : Rel N β s a w) {x : Option Operand} {v : Option Value} (h : evO s.ts x = some v) : OptRel β v (x.map a.eval) := by
  cases x with
  | none => simp [evO] at h; subst h; exact .inl ⟨rfl, rfl⟩
  | some x =>
    simp only [evO] at h
    split at h
    · rename_i u hu
      obtain rfl := Option.some.inj h
      exact .inr ⟨_, _, rfl, rfl, ev_rel hr hu⟩
    · simp at h

def withH (H : Heap) (n : Nat) : Option Value → Option (Value × Heap × Nat)
  | some v => some (v, H, n)
  | none => none

def ev1 (ts : Temps) (x : Operand) (f : Value → Option Value) : Option Value :=
  match ev ts x with
  | some v => f v
  | none => none
def ev2 (ts : Temps) (x y : Operand) (f : Value → Value → Option Value) : Option Value :=
  match ev ts x, ev ts y with
  | some v, some u => f v u
  | _, _ => none

def cBuiltin (P : Program) (b : Builtin) (tys : Array TypeId) (xs : List Operand) (ts : Temps) (H : Heap) (n : Nat) : Option (Value × Heap × Nat) :=
  match b with
  | .len => withH H n (match tys.toList, xs with
    | [t], [x] => ev1 ts x (cLen P t)
    | _, _ => none)
  | .append => match xs with
    | [x, y] => match ev ts x, ev ts y with
      | some v, some u => cAppend P tys H n v u
      | _, _ => none
    | _ => none
  | .max => withH H n (match evs ts xs with | some vs => cMax vs | none => none)
  | .min => withH H n (match evs ts xs with | some vs => cMin vs | none => none)
  | .clear => match xs with
    | [x] => match ev ts x with
      | some v => match cClear P tys H v with
        | some H' => some (.tuple #[], H', n)
        | none => none
      | none => none
    | _ => none
  | _ => none

def cMapW (P : Program) (t : TypeId) (m k x : Operand) (ts : Temps) (H : Heap) (n : Nat) : Option (Value × Heap × Nat) :=
  match ev ts m, ev ts k, ev ts x with
  | some u, some q, some v => match cMapUpdate P t H u q v with
    | some H' => some (.tuple #[], H', n)
    | none => none
  | _, _, _ => none

def cop (P : Program) (o : Op) (ts : Temps) (H : Heap) (n : Nat) : Option (Value × Heap × Nat) :=
  match o with
  | .move x => withH H n (ev ts x)
  | .assign x => withH H n (ev ts x)
  | .pick c a b => match ev ts c with
    | some (.bool true) => withH H n (ev ts a)
    | some (.bool false) => withH H n (ev ts b)
    | _ => none
  | .alloc t => match ti P t with
    | some T => if T.zero.all konst0 then some (.pointer (some ⟨n, 0, none⟩), H.set n (.cells false T.zero), n + 1) else none
    | none => none
  | .box _ x => match ev ts x with
    | some v => if isTuple v then none else some (.pointer (some ⟨n, 0, none⟩), H.set n (.cells false v.cells.toList), n + 1)
    | none => none
  | .build t ps => match evParts ts ps.toList with
    | some vs => if vs.all (fun p => !isTuple p.2) then withH H n (cBuild P t vs) else none
    | none => none
  | .buildSlice t len ps => match evParts ts ps.toList with
    | some vs => if vs.all (fun p => !isTuple p.2) then cBuildSlice P t len H n vs else none
    | none => none
  | .load t x => withH H n (ev1 ts x (cLoad P t H))
  | .store t x y => match ev ts x, ev ts y with
    | some p, some v => if isTuple v then none else match cStore P t H p v with
      | some H' => some (.tuple #[], H', n)
      | none => none
    | _, _ => none
  | .binOp op t x y _ => withH H n (ev2 ts x y (cBin P op t))
  | .unOp op _ x => withH H n (ev1 ts x (cUn op))
  | .convert s d x => withH H n (ev1 ts x (cConv P s d))
  | .sliceToArrayPointer t x => withH H n (ev1 ts x (cArrayAt P t))
  | .makeFunc fn fs cs => match evs ts fs.toList, evs ts cs.toList with
    | some vs, some us => withH H n (cMakeFunc fn vs us)
    | _, _ => none
  | .makeSlice t x y => match ev ts x, ev ts y with
    | some v, some u => cMake P t H n v u
    | _, _ => none
  | .slice t x lo hi mx => match evO ts lo, evO ts hi, evO ts mx with
    | some l, some h, some m => withH H n (ev1 ts x fun v => cSlice P t H v l h m)
    | _, _, _ => none
  | .fieldAddr t x f => withH H n (ev1 ts x (cFieldAddr P t f))
  | .field t x f => withH H n (ev1 ts x (cField P t f))
  | .indexAddr t x i => withH H n (ev2 ts x i (cIndexAddr P t))
  | .index t x i => withH H n (ev2 ts x i (cIndex P t))
  | .extract x i => withH H n (ev1 ts x (cExtract i))
  | .call c => match c.callee with
    | .builtin b => cBuiltin P b c.argTypes c.args.toList ts H n
    | _ => none
  | .makeMap t none => cMakeMap P t H n
  | .lookup t x i ok => withH H n (ev2 ts x i (cLookup P t ok H))
  | .mapUpdate t m k x => cMapW P t m k x ts H n
  | .insert t m k x => cMapW P t m k x ts H n
  | _ => none

theorem withH_some {H H' : Heap} {n n' : Nat} {x : Option Value} {v : Value} (h : withH H n x = some (v, H', n')) : x = some v ∧ H' = H ∧ n' = n := by
  cases x with
  | none => simp [withH] at h
  | some u => simp [withH] at h; exact ⟨by rw [h.1], h.2.1.symm, h.2.2.symm⟩
theorem ev1_some {ts : Temps} {x : Operand} {f : Value → Option Value} {v : Value} (h : ev1 ts x f = some v) : ∃ u, ev ts x = some u ∧ f u = some v := by
  unfold ev1 at h
  split at h
  · exact ⟨_, ‹_›, h⟩
  · simp at h
theorem ev2_some {ts : Temps} {x y : Operand} {f : Value → Value → Option Value} {v : Value} (h : ev2 ts x y f = some v) : ∃ u r, ev ts x = some u ∧ ev ts y = some r ∧ f u r = some v := by
  unfold ev2 at h
  split at h
  · exact ⟨_, _, ‹_›, ‹_›, h⟩
  · simp at h

theorem yield_pure {N : Nat} {β : Names} {s : St} {a : Act} {w : World} (hr : Rel N β s a w) {r : Sem Value} {v : Value} (h : Pure P β w r v) :
    Yield s.n β s.H w ((do pure (Next.value (← r)) : Sem Next).run P w) v s.H s.n := by
  obtain ⟨u, hu, hv⟩ := h
  refine ⟨u, w, β, .inl ?_, hv, hr.sat, Nat.le_refl _, hr.fresh, Grow.refl _ _ hr.fresh⟩
  simp [hu]

theorem yield_made {N : Nat} {β : Names} {s : St} {a : Act} {w : World} (hr : Rel N β s a w) {r : Sem Value} {v : Value} {H' : Heap} {n' : Nat}
    (h : ∃ q w' β', r.run P w = .ok q w' ∧ VT β' v q ∧ Sat β' H' w' ∧ s.n ≤ n' ∧ (∀ x, n' ≤ x → β' x = none) ∧ Grow s.n β s.H w β' H' w') :
    Yield s.n β s.H w ((do pure (Next.value (← r)) : Sem Next).run P w) v H' n' := by
  obtain ⟨q, w', β', h1, h2, h3, h4, h5, h6⟩ := h
  exact ⟨q, w', β', .inl (by simp [h1]), h2, h3, h4, h5, h6⟩

theorem builtin_sound {N : Nat} {β : Names} {s : St} {a : Act} {w : World} (hr : Rel N β s a w) {b : Builtin} {tys : Array TypeId} {xs : List Operand} {v : Value} {H' : Heap} {n' : Nat}
    (h : cBuiltin P b tys xs s.ts s.H s.n = some (v, H', n')) (ty : TypeId) (cs : Array Bool) :
    Yield s.n β s.H w ((builtin b tys ty cs (xs.map a.eval).toArray).run P w) v H' n' := by
  unfold cBuiltin at h
  split at h
  case h_1 =>
    obtain ⟨h1, rfl, rfl⟩ := withH_some h
    split at h1
    case h_2 => simp at h1
    case h_1 t x ht =>
      obtain ⟨u, hu, h2⟩ := ev1_some h1
      have : tys = #[t] := Array.toList_inj.mp (by simpa using ht)
      subst this
      exact yield_pure hr (len_sound (ev_rel hr hu) h2)
  case h_2 =>
    split at h
    case h_2 => simp at h
    case h_1 x y =>
      split at h
      case h_2 => simp at h
      case h_1 u r hu hv =>
        exact yield_made hr (append_sound hr.sat hr.fresh (ev_rel hr hu) (ev_rel hr hv) h)
  case h_3 =>
    obtain ⟨h1, rfl, rfl⟩ := withH_some h
    split at h1
    · rename_i vs hvs
      exact yield_pure hr (max_sound (evs_rel hr hvs) h1)
    · simp at h1
  case h_4 =>
    obtain ⟨h1, rfl, rfl⟩ := withH_some h
    split at h1
    · rename_i vs hvs
      exact yield_pure hr (min_sound (evs_rel hr hvs) h1)
    · simp at h1
  case h_5 =>
    split at h
    case h_2 => simp at h
    case h_1 x =>
      split at h
      case h_2 => simp at h
      case h_1 u hu =>
        split at h
        case h_2 => simp at h
        case h_1 H2 hc =>
          simp only [Option.some.injEq, Prod.mk.injEq] at h
          obtain ⟨rfl, rfl, rfl⟩ := h
          obtain ⟨w', h1, h2, h3⟩ := clear_sound (ty := ty) (n := s.n) hr.sat hr.fresh (ev_rel hr hu) hc
          exact yield_made hr ⟨.tuple #[], w', β, h1, ⟨#[], rfl, trivial⟩, h2, Nat.le_refl _, hr.fresh, h3⟩
  case h_6 => simp at h

theorem mapW_sound {N : Nat} {β : Names} {s : St} {a : Act} {w : World} (hr : Rel N β s a w) {t : TypeId} {m k x : Operand} {v : Value} {H' : Heap} {n' : Nat}
    (h : cMapW P t m k x s.ts s.H s.n = some (v, H', n')) : Yield s.n β s.H w ((do Instr.mapUpdate t (a.eval m) (a.eval k) (a.eval x); pure Next.skip : Sem Next).run P w) v H' n' := by
  unfold cMapW at h
  split at h
  case h_2 => simp at h
  case h_1 u q p hu hq hp =>
    split at h
    case h_2 => simp at h
    case h_1 H2 hm =>
      simp only [Option.some.injEq, Prod.mk.injEq] at h
      obtain ⟨rfl, rfl, rfl⟩ := h
      have hpt : isTuple p = false := by
        cases p <;> first | rfl | (exfalso; unfold cMapUpdate at hm; revert hm; repeat (split <;> try simp))
      obtain ⟨w', h1, h2, h3⟩ := mapUpdate_sound (P := P) (n := s.n) hr.sat hr.fresh (ev_rel hr hu) (ev_rel hr hq) ((ev_rel hr hp).toVA hpt) hm
      exact ⟨undef, w', β, .inr ⟨by simp [h1], rfl⟩, ⟨#[], rfl, trivial⟩, h2, Nat.le_refl _, hr.fresh, h3⟩

theorem cop_sound {N : Nat} {β : Names} {s : St} {a : Act} {w : World} (hr : Rel N β s a w) {o : Oper} {v : Value} {H' : Heap} {n' : Nat}
    (h : cop P o.op s.ts s.H s.n = some (v, H', n')) : Yield s.n β s.H w ((execOp a.eval o).run P w) v H' n' := by
  unfold execOp
  simp only []
  unfold cop at h
  split at h
  case h_1 x hop =>
    obtain ⟨h1, rfl, rfl⟩ := withH_some h
    rw [hop]
    exact ⟨_, w, β, .inl rfl, ev_rel hr h1, hr.sat, Nat.le_refl _, hr.fresh, Grow.refl _ _ hr.fresh⟩
  case h_2 x hop =>
    obtain ⟨h1, rfl, rfl⟩ := withH_some h
    rw [hop]
    exact ⟨_, w, β, .inl rfl, ev_rel hr h1, hr.sat, Nat.le_refl _, hr.fresh, Grow.refl _ _ hr.fresh⟩
  case h_3 c x y hop =>
    rw [hop]
    split at h
    case h_3 => simp at h
    all_goals
      rename_i hc
      obtain ⟨h1, rfl, rfl⟩ := withH_some h
      have e := bool_inv (ev_rel hr hc)
      refine ⟨_, w, β, .inl ?_, ev_rel hr h1, hr.sat, Nat.le_refl _, hr.fresh, Grow.refl _ _ hr.fresh⟩
      simp [e, asBool]
  case h_4 t hop =>
    rw [hop]
    split at h
    case h_2 => simp at h
    case h_1 T hT =>
      split at h
      case isFalse => simp at h
      case isTrue hk =>
        simp only [Option.some.injEq, Prod.mk.injEq] at h
        obtain ⟨rfl, rfl, rfl⟩ := h
        obtain ⟨d, ii, z, hd, hii, hz, e1, e2, e3, e4, e5⟩ := ti_some hT
        have hzv : All2 (VC β) T.zero z.cells.toList := by rw [← e4]; exact konst0_All2 hk
        obtain ⟨β', hrun, hn, hle, g1, g2, g3⟩ := newRow_sound (P := P) hr.sat hr.fresh (cs := T.zero) (c := z.cells) t (by rw [e4]; simp) (fun i v hi => by
          obtain ⟨u, hu, huv⟩ := hzv.get i v hi; exact ⟨u, by simpa using hu, huv⟩)
        refine yield_made hr ⟨.pointer (some ⟨w.heap.size, 0, none⟩), _, β', ?_, (show VT β' (.pointer (some ⟨s.n, 0, none⟩)) _ from ⟨_, hn, rfl, by simp⟩), g1, Nat.le_succ _, g2, g3⟩
        simp [Instr.alloc, run_zero hii hz, newVar, hrun]
  case h_5 t x hop =>
    rw [hop]
    split at h
    case h_2 => simp at h
    case h_1 u hu =>
      split at h
      case isTrue => simp at h
      case isFalse hk =>
        simp only [Option.some.injEq, Prod.mk.injEq] at h
        obtain ⟨rfl, rfl, rfl⟩ := h
        obtain ⟨β', w', q, h1, h2, h3, h4, h5⟩ := newVar_sound (P := P) hr.sat hr.fresh t ((ev_rel hr hu).toVA (by simpa using hk))
        refine yield_made hr ⟨.pointer (some q), w', β', ?_, h2, h3, Nat.le_succ _, h4, h5⟩
        simp [Instr.box, h1]
  case h_6 t ps hop =>
    rw [hop]
    split at h
    case h_2 => simp at h
    case h_1 vs hvs =>
      split at h
      case isFalse => simp at h
      case isTrue hk =>
        obtain ⟨h1, rfl, rfl⟩ := withH_some h
        have := build_sound (P := P) (w := w) (evParts_rel hr hvs hk) h1
        refine yield_pure hr ?_
        have e : (ps.map fun (i, x) => (i, a.eval x)) = (ps.toList.map fun (i, x) => (i, a.eval x)).toArray := by rw [← Array.toList_map, Array.toArray_toList]
        rw [e]; exact this
  case h_7 t len ps hop =>
    rw [hop]
    split at h
    case h_2 => simp at h
    case h_1 vs hvs =>
      split at h
      case isFalse => simp at h
      case isTrue hk =>
        have := buildSlice_sound (P := P) (w := w) hr.sat hr.fresh (evParts_rel hr hvs hk) h
        refine yield_made hr ?_
        have e : (ps.map fun (i, x) => (i, a.eval x)) = (ps.toList.map fun (i, x) => (i, a.eval x)).toArray := by rw [← Array.toList_map, Array.toArray_toList]
        rw [e]; exact this
  case h_8 t x hop =>
    rw [hop]
    obtain ⟨h1, rfl, rfl⟩ := withH_some h
    obtain ⟨u, hu, h2⟩ := ev1_some h1
    obtain ⟨r, hr1, hr2⟩ := load_sound (P := P) hr.sat hr.fresh (ev_rel hr hu) h2
    exact yield_pure hr ⟨r, hr1, VT.of_VA hr2⟩
  case h_9 t x y hop =>
    rw [hop]
    split at h
    case h_2 => simp at h
    case h_1 p u hp hu =>
      split at h
      case isTrue => simp at h
      case isFalse hk =>
        split at h
        case h_2 => simp at h
        case h_1 H2 hst =>
          simp only [Option.some.injEq, Prod.mk.injEq] at h
          obtain ⟨rfl, rfl, rfl⟩ := h
          obtain ⟨w', h1, h2, h3⟩ := store_sound (P := P) hr.sat hr.fresh (ev_rel hr hp) ((ev_rel hr hu).toVA (by simpa using hk)) hst
          exact ⟨undef, w', β, .inr ⟨by simp [h1], rfl⟩, ⟨#[], rfl, trivial⟩, h2, Nat.le_refl _, hr.fresh, h3⟩
  case h_10 op t x y t2 hop =>
    rw [hop]
    obtain ⟨h1, rfl, rfl⟩ := withH_some h
    obtain ⟨u, r, hu, hv, h2⟩ := ev2_some h1
    exact yield_pure hr (bin_sound (ev_rel hr hu) (ev_rel hr hv) h2)
  case h_11 op t x hop =>
    rw [hop]
    obtain ⟨h1, rfl, rfl⟩ := withH_some h
    obtain ⟨u, hu, h2⟩ := ev1_some h1
    exact yield_pure hr (un_sound (ev_rel hr hu) h2)
  case h_12 sr d x hop =>
    rw [hop]
    obtain ⟨h1, rfl, rfl⟩ := withH_some h
    obtain ⟨u, hu, h2⟩ := ev1_some h1
    exact yield_pure hr (conv_sound (ev_rel hr hu) h2)
  case h_13 t x hop =>
    rw [hop]
    obtain ⟨h1, rfl, rfl⟩ := withH_some h
    obtain ⟨u, hu, h2⟩ := ev1_some h1
    exact yield_pure hr (arrayAt_sound (ev_rel hr hu) h2)
  case h_14 fn fs cs hop =>
    rw [hop]
    split at h
    case h_2 => simp at h
    case h_1 vs us hvs hus =>
      obtain ⟨h1, rfl, rfl⟩ := withH_some h
      have := makeFunc_sound (P := P) (w := w) (evs_rel hr hvs) (evs_rel hr hus) h1
      refine yield_pure hr ?_
      have e1 : fs.map a.eval = (fs.toList.map a.eval).toArray := by rw [← Array.toList_map, Array.toArray_toList]
      have e2 : cs.map a.eval = (cs.toList.map a.eval).toArray := by rw [← Array.toList_map, Array.toArray_toList]
      rw [e1, e2]; exact this
  case h_15 t x y hop =>
    rw [hop]
    split at h
    case h_2 => simp at h
    case h_1 u r hu hv =>
      exact yield_made hr (make_sound hr.sat hr.fresh (ev_rel hr hu) (ev_rel hr hv) h)
  case h_16 t x lo hi mx hop =>
    rw [hop]
    split at h
    case h_2 => simp at h
    case h_1 l hh m hl hhh hm =>
      obtain ⟨h1, rfl, rfl⟩ := withH_some h
      obtain ⟨u, hu, h2⟩ := ev1_some h1
      exact yield_pure hr (slice_sound hr.sat (ev_rel hr hu) ⟨evO_rel hr hl, evO_rel hr hhh, evO_rel hr hm, trivial⟩ h2)
  case h_17 t x f hop =>
    rw [hop]
    obtain ⟨h1, rfl, rfl⟩ := withH_some h
    obtain ⟨u, hu, h2⟩ := ev1_some h1
    exact yield_pure hr (fieldAddr_sound (ev_rel hr hu) h2)
  case h_18 t x f hop =>
    rw [hop]
    obtain ⟨h1, rfl, rfl⟩ := withH_some h
    obtain ⟨u, hu, h2⟩ := ev1_some h1
    exact yield_pure hr (field_sound (ev_rel hr hu) h2)
  case h_19 t x i hop =>
    rw [hop]
    obtain ⟨h1, rfl, rfl⟩ := withH_some h
    obtain ⟨u, r, hu, hv, h2⟩ := ev2_some h1
    exact yield_pure hr (indexAddr_sound (ev_rel hr hu) (ev_rel hr hv) h2)
  case h_20 t x i hop =>
    rw [hop]
    obtain ⟨h1, rfl, rfl⟩ := withH_some h
    obtain ⟨u, r, hu, hv, h2⟩ := ev2_some h1
    exact yield_pure hr (index_sound (ev_rel hr hu) (ev_rel hr hv) h2)
  case h_21 x i hop =>
    rw [hop]
    obtain ⟨h1, rfl, rfl⟩ := withH_some h
    obtain ⟨u, hu, h2⟩ := ev1_some h1
    exact yield_pure hr (extract_sound (ev_rel hr hu) h2)
  case h_22 c hop =>
    rw [hop]
    split at h
    case h_2 => simp at h
    case h_1 b hb =>
      have e : c.args.map a.eval = (c.args.toList.map a.eval).toArray := by rw [← Array.toList_map, Array.toArray_toList]
      have := builtin_sound (P := P) hr h o.type (c.args.map fun | .const _ => true | _ => false)
      simp only [resolve, hb, Sem.run_bind, Sem.run_pure, Result.andThen_ok, invoke, e]
      exact this
  case h_23 t hop =>
    rw [hop]
    simp only [cMakeMap, Option.some.injEq, Prod.mk.injEq] at h
    obtain ⟨rfl, rfl, rfl⟩ := h
    exact yield_made hr (makeMap_sound hr.sat hr.fresh t)
  case h_24 t x i ok hop =>
    rw [hop]
    obtain ⟨h1, rfl, rfl⟩ := withH_some h
    obtain ⟨u, r, hu, hv, h2⟩ := ev2_some h1
    exact yield_pure hr (lookup_sound hr.sat (ev_rel hr hu) (ev_rel hr hv) h2)
  case h_25 t m k x hop =>
    rw [hop]
    exact mapW_sound hr h
  case h_26 t m k x hop =>
    rw [hop]
    exact mapW_sound hr h
  case h_27 => simp at h

end Go.Sep
/- Calls of Go functions; regions whose order is the text's. -/
namespace Go.Sep
open Go
set_option linter.unusedVariables false
set_option linter.unusedSimpArgs false

variable {P : Program}

/-- The triple for a function. -/
def Fn (P : Program) (f : FuncId) (args : List Value) (H : Heap) (n : Nat) (v : Value) (H' : Heap) (n' : Nat) : Prop :=
  (∃ fn, P.funcs[f]? = some fn ∧ fn.body.isSome = true ∧ (fn.name == "runtime.NumGoroutine") = false) ∧ n ≤ n' ∧
  ∀ β (cargs : Array Value) w, All2 (VA β) args cargs.toList → Sat β H w → (∀ x, n ≤ x → β x = none) →
    Calls P f cargs w fun e w' => ∃ u β', e = .returned u ∧ VT β' v u ∧ Sat β' H' w' ∧ (∀ x, n' ≤ x → β' x = none) ∧ Grow n β H w β' H' w'

theorem Grow.le {n : Nat} {β β' : Names} {H H' : Heap} {w w' : World} (h : Grow n β H w β' H' w') (hf : ∀ x, n ≤ x → β x = none) : β.le β' := fun x l hx => by
  by_cases e : x < n
  · rw [h.names x e]; exact hx
  · rw [hf x (by omega)] at hx; simp at hx

def putT (ts : Temps) (d : Option Tmp) (v : Value) : Temps :=
  match d with
  | some t => (t, v) :: ts
  | none => ts

def okDst (N : Nat) : Option Tmp → Bool
  | some t => t < N
  | none => true

theorem Rel.put {N : Nat} {β β' : Names} {s : St} {a : Act} {w w' : World} (hr : Rel N β s a w) {d : Option Tmp} (hd : okDst N d = true) {v u : Value} {H' : Heap} {n' : Nat}
    (hle : β.le β') (hv : VT β' v u) (hs : Sat β' H' w') (hf : ∀ x, n' ≤ x → β' x = none) : Rel N β' ⟨putT s.ts d v, H', n'⟩ (a.put d u) w' := by
  refine ⟨?_, ?_, ?_, hs, hf⟩
  · cases d <;> exact hr.defers
  · cases d
    · exact hr.size
    · simp [Act.put, hr.size]
  · intro t x ht
    cases d with
    | none =>
      obtain ⟨y, hy, hyv⟩ := hr.tmp t x ht
      exact ⟨y, hy, hyv.mono hle⟩
    | some d =>
      simp only [okDst, decide_eq_true_eq] at hd
      simp only [putT, get] at ht
      split at ht
      · rename_i e
        subst e
        obtain rfl := Option.some.inj ht
        refine ⟨u, ?_, hv⟩
        simp [Act.put, hr.size, hd]
      · rename_i e
        obtain ⟨y, hy, hyv⟩ := hr.tmp t x ht
        refine ⟨y, ?_, hyv.mono hle⟩
        simp [Act.put, Array.getElem?_setIfInBounds_ne e, hy]

/-- The Go function that an operation calls, and what it hands over. -/
def calleeOf (ts : Temps) : Op → Option (FuncId × List Value)
  | .call c => match c.callee with
    | .value f => match ev ts f, evs ts c.args.toList with
      | some (.func (.func g) _ cs), some vs => if vs.all (fun v => !isTuple v) then some (g, vs ++ cs.toList) else none
      | _, _ => none
    | _ => none
  | _ => none

def stepOp (P : Program) (o : Op) (s : St) (K : Value → Heap → Nat → Prop) : Prop :=
  match calleeOf s.ts o with
  | some (f, args) => ∃ v H' n', Fn P f args s.H s.n v H' n' ∧ K v H' n'
  | none => match cop P o s.ts s.H s.n with
    | some (v, H', n') => K v H' n'
    | none => False

/-- Is the operation wanted? -/
def wantC (ops : Array Oper) (o : Oper) (ts : Temps) : Option Bool :=
  match o.guard with
  | none => some true
  | some (j, want) => match ops[j]? with
    | some oj => match oj.dst with
      | some t => match get ts t with
        | some (.bool b) => some (b == want)
        | some (.tuple _) => some false
        | _ => none
      | none => none
    | none => none

theorem wantC_sound {N : Nat} {β : Names} {s : St} {a : Act} {w : World} (hr : Rel N β s a w) {ops : Array Oper} {o : Oper} {b : Bool} (h : wantC ops o s.ts = some b) :
    Region.wanted o (yielded ops a.tmps) = b := by
  unfold wantC at h
  unfold Region.wanted
  split at h
  · rename_i hg
    rw [hg]
    simpa using h
  · rename_i j want hg
    rw [hg]
    simp only []
    split at h
    · rename_i oj hj
      split at h
      · rename_i t ht
        unfold yielded
        simp only [hj, Option.bind_some, ht]
        split at h
        · rename_i c hc
          obtain ⟨u, hu, hv⟩ := hr.tmp t _ hc
          obtain rfl := bool_inv hv
          simp only [hu]
          obtain rfl := Option.some.inj h
          cases c <;> cases want <;> rfl
        · rename_i vs hc
          obtain ⟨u, hu, hv⟩ := hr.tmp t _ hc
          obtain ⟨cs', rfl, _⟩ := hv
          simp only [hu]
          obtain rfl := Option.some.inj h
          rfl
        · simp at h
      · simp at h
    · simp at h

theorem All2.VA_of_VT {β : Names} : ∀ {l m : List Value}, All2 (VT β) l m → l.all (fun v => !isTuple v) = true → All2 (VA β) l m
  | [], [], _, _ => trivial
  | x :: l, y :: m, h, ht => by simp at ht; exact ⟨h.1.toVA ht.1, All2.VA_of_VT h.2 (by simpa using ht.2)⟩
  | [], _ :: _, h, _ => h.elim
  | _ :: _, [], h, _ => h.elim

theorem V0.toVA {β : Names} {c v : Value} (h : V0 β c v) : VA β c v := by
  cases c <;> first | exact h | exact h.elim

theorem call_sound {N : Nat} {β : Names} {s : St} {a : Act} {w : World} (hr : Rel N β s a w) {o : Oper} {f : FuncId} {args : List Value} (h : calleeOf s.ts o.op = some (f, args))
    (hfn : ∃ fn, P.funcs[f]? = some fn ∧ fn.body.isSome = true ∧ (fn.name == "runtime.NumGoroutine") = false) :
    ∃ cargs : Array Value, (execOp a.eval o).run P w = .ok (.enter f cargs) w ∧ All2 (VA β) args cargs.toList := by
  unfold calleeOf at h
  split at h
  case h_2 => simp at h
  case h_1 c hop =>
    split at h
    case h_2 => simp at h
    case h_1 g hg =>
      split at h
      case h_2 => simp at h
      case h_1 f' fs cs vs hf hvs =>
        split at h
        case isFalse => simp at h
        case isTrue ht =>
          simp only [Option.some.injEq, Prod.mk.injEq] at h
          obtain ⟨rfl, rfl⟩ := h
          have hv := ev_rel hr hf
          obtain ⟨rfl, cs', hcs, hall⟩ := hv
          have hargs := (evs_rel hr hvs).VA_of_VT ht
          obtain ⟨fn, h1, h2, h3⟩ := hfn
          refine ⟨c.args.map a.eval ++ cs', ?_, ?_⟩
          · unfold execOp
            simp only [hop, resolve, hg, hcs, Deferred.ofValue, Sem.run_bind, Sem.run_pure, Result.andThen_ok, invoke, callFunc]
            have h3' : fn.name ≠ "runtime.NumGoroutine" := by simpa using h3
            have hb' : fn.body ≠ none := by intro e; simp [e] at h2
            simp [h1, h3', hb']
          · rw [Array.toList_append, Array.toList_map]
            exact hargs.append (hall.mono fun _ _ => V0.toVA)

/-- One operation, whichever: what comes behind it holds. -/
theorem op_sound' {N : Nat} {β : Names} {s : St} {a : Act} {w : World} (hr : Rel N β s a w) {ops : Array Oper} {Q : Exit → Act → World → Prop} {i : Nat} {o : Oper} (ho : ops[i]? = some o)
    {K : Value → Heap → Nat → Prop} (h : (wantC ops o s.ts = some true ∧ stepOp P o.op s K) ∨ (wantC ops o s.ts = some false ∧ K (.tuple #[]) s.H s.n))
    {K' : Act → World → Prop}
    (hK : ∀ v H' n' β' u w', K v H' n' → s.n ≤ n' → VT β' v u → Sat β' H' w' → (∀ x, n' ≤ x → β' x = none) → Grow s.n β s.H w β' H' w' → K' (a.put o.dst u) w') :
    wpOp P ops Q i K' a w := by
  unfold wpOp
  simp only [ho]
  rcases h with ⟨hw, h⟩ | ⟨hw, h⟩
  · rw [if_pos (wantC_sound hr hw)]
    refine .inl ?_
    unfold Oper.wp
    unfold stepOp at h
    split at h
    · rename_i f args hc
      obtain ⟨v, H', n', hfn, hk⟩ := h
      obtain ⟨hex, hn, hcall⟩ := hfn
      obtain ⟨cargs, hrun, hargs⟩ := call_sound hr hc hex
      rw [hrun]
      simp only [Oper.upon]
      refine (hcall β cargs w hargs hr.sat hr.fresh).mono fun e w' he => ?_
      obtain ⟨u, β', rfl, hv, hs, hf, hg⟩ := he
      exact hK v H' n' β' _ _ hk hn hv hs hf hg
    · split at h
      · rename_i v H' n' hcop
        obtain ⟨u, w', β', hrun, hv, hs, hn, hf, hg⟩ := cop_sound (P := P) hr hcop
        rcases hrun with hrun | ⟨hrun, rfl⟩
        · rw [hrun]; simp only [Oper.upon]; exact hK v H' n' β' _ _ h hn hv hs hf hg
        · rw [hrun]; simp only [Oper.upon]; exact hK v H' n' β' _ _ h hn hv hs hf hg
      · exact h.elim
  · rw [wantC_sound hr hw]
    simp only [Bool.false_eq_true, if_false]
    exact hK _ _ _ β _ _ h (Nat.le_refl _) ⟨#[], rfl, trivial⟩ hr.sat hr.fresh (Grow.refl _ _ hr.fresh)

theorem op_sound {N : Nat} {β : Names} {s : St} {a : Act} {w : World} (hr : Rel N β s a w) {ops : Array Oper} {Q : Exit → Act → World → Prop} {i : Nat} {o : Oper} (ho : ops[i]? = some o)
    (hd : okDst N o.dst = true) {K : Value → Heap → Nat → Prop} (h : (wantC ops o s.ts = some true ∧ stepOp P o.op s K) ∨ (wantC ops o s.ts = some false ∧ K (.tuple #[]) s.H s.n))
    {K' : Act → World → Prop}
    (hK : ∀ v H' n' β' a' w', K v H' n' → s.n ≤ n' → Rel N β' ⟨putT s.ts o.dst v, H', n'⟩ a' w' → Grow s.n β s.H w β' H' w' → K' a' w') :
    wpOp P ops Q i K' a w :=
  op_sound' (P := P) hr ho h fun v H' n' β' u w' hk hn hv hs hf hg => hK v H' n' β' _ _ hk hn (hr.put hd (hg.le hr.fresh) hv hs hf) hg

/-- The operations one after the other. -/
def wops (P : Program) (N : Nat) (ops : Array Oper) : List Oper → St → (St → Prop) → Prop
  | [], s, K => K s
  | o :: r, s, K => okDst N o.dst = true ∧ match wantC ops o s.ts with
    | some true => stepOp P o.op s fun v H' n' => wops P N ops r ⟨putT s.ts o.dst v, H', n'⟩ K
    | some false => wops P N ops r ⟨putT s.ts o.dst (.tuple #[]), s.H, s.n⟩ K
    | none => False

theorem wops_sound {N : Nat} {ops : Array Oper} {Q : Exit → St → Prop} : ∀ (r : List Oper) (j : Nat), ops.toList.drop j = r → ∀ (s : St), wops P N ops r s (Q .normal) →
    ∀ (β0 : Names) (s0 : St) (w0 : World) (β : Names) (a : Act) (w : World), Rel N β s a w → s0.n ≤ s.n → Grow s0.n β0 s0.H w0 β s.H w →
      wpOps P ops (Post N β0 s0 w0 Q) (List.range' j r.length) a w
  | [], j, _, s, h, β0, s0, w0, β, a, w, hr, hn, hg => ⟨s, β, h, hn, hr, hg⟩
  | o :: r, j, hj, s, h, β0, s0, w0, β, a, w, hr, hn, hg => by
    have ho : ops[j]? = some o := by
      have := congrArg (·[0]?) hj
      simpa [List.getElem?_drop] using this
    have hj' : ops.toList.drop (j + 1) = r := by rw [← List.drop_drop, hj]; rfl
    simp only [List.length_cons, List.range'_succ]
    rw [wpOps_cons]
    simp only [wops] at h
    obtain ⟨hd, h⟩ := h
    refine op_sound (P := P) hr ho hd (K := fun v H' n' => wops P N ops r ⟨putT s.ts o.dst v, H', n'⟩ (Q .normal)) ?_ ?_
    · split at h
      · exact .inl ⟨‹_›, h⟩
      · exact .inr ⟨‹_›, h⟩
      · exact h.elim
    · intro v H' n' β' a' w' hk hn' hr' hg'
      exact wops_sound r (j + 1) hj' _ hk β0 s0 w0 β' a' w' hr' (Nat.le_trans hn hn') (hg.trans hn hg')

theorem W.region {N : Nat} {id : Nat} {ops : Array Oper} {s : St} {Q : Exit → St → Prop} (h : wops P N ops ops.toList s (Q .normal)) : W P N (.region id ops false) s Q :=
  fun β a w hr => wp_region (by
    have := wops_sound (P := P) (Q := Q) ops.toList 0 (by simp) s h β s w β a w hr (Nat.le_refl _) (Grow.refl _ _ hr.fresh)
    rw [List.range_eq_range']
    simpa using this)

theorem W.cond {N : Nat} {c : Operand} {x y : Code} {b : Bool} {s : St} {Q : Exit → St → Prop} (hc : ev s.ts c = some (.bool b)) (h : W P N (if b then x else y) s Q) : W P N (.cond c x y) s Q :=
  fun β a w hr => wp_cond (bool_inv (ev_rel hr hc)) (h β a w hr)

/-! ### The triple for a function out of the triple for its body -/

def resOne (P : Program) (s : St) : ResultVar → Option Value
  | .tmp t => get s.ts t
  | .cell a t => match get s.ts a with
    | some p => cLoad P t s.H p
    | none => none

def resAll (P : Program) (s : St) : List ResultVar → Option (List Value)
  | [] => some []
  | r :: rs => match resOne P s r, resAll P s rs with
    | some v, some vs => some (v :: vs)
    | _, _ => none

/-- What a function hands back. -/
def resOf (P : Program) (s : St) (rs : List ResultVar) : Option Value :=
  match resAll P s rs with
  | some [v] => if isTuple v then none else some v
  | some vs => if vs.all (fun v => !isTuple v) then some (.tuple vs.toArray) else none
  | none => none

/-- One result, in the machine. -/
def resF (tmps : Array Value) : ResultVar → Sem Value
  | .tmp t => pure (tmps.getD t undef)
  | .cell p t => do loadVar t (← asAddr (tmps.getD p undef))

theorem results_eq (fn : Func) (tmps : Array Value) : results fn tmps = (do
    let vs ← fn.results.mapM (resF tmps)
    pure (if h : vs.size = 1 then vs[0] else .tuple vs)) := rfl

theorem resOne_sound {N : Nat} {β : Names} {s : St} {a : Act} {w : World} (hr : Rel N β s a w) {r : ResultVar} {v : Value} (h : resOne P s r = some v) :
    ∃ u, (resF a.tmps r).run P w = .ok u w ∧ VT β v u := by
  cases r with
  | tmp t =>
    obtain ⟨u, hu, hv⟩ := hr.tmp t v h
    exact ⟨u, by simp [resF, hu], hv⟩
  | cell p t =>
    simp only [resOne] at h
    split at h
    · rename_i q hq
      obtain ⟨u, hu, hv⟩ := hr.tmp p q hq
      obtain ⟨r, h1, h2⟩ := load_sound (P := P) hr.sat hr.fresh hv h
      refine ⟨r, ?_, VT.of_VA h2⟩
      obtain ⟨p', rfl⟩ : ∃ p', q = .pointer (some p') := by
        cases q with
        | pointer x => cases x with
          | some x => exact ⟨x, rfl⟩
          | none => simp [cLoad] at h
        | _ => simp [cLoad] at h
      obtain ⟨l, _, rfl⟩ := pointer_inv hv
      simp only [Instr.loadAt, Instr.sureAddr, Sem.run_bind, Sem.run_pure, Result.andThen_ok] at h1
      simp [resF, hu, asAddr, h1]
    · simp at h

theorem resAll_sound {N : Nat} {β : Names} {s : St} {a : Act} {w : World} (hr : Rel N β s a w) : ∀ {rs : List ResultVar} {vs : List Value}, resAll P s rs = some vs →
    ∃ us : List Value, (rs.mapM (resF a.tmps)).run P w = .ok us w ∧ All2 (VT β) vs us
  | [], vs, h => by simp [resAll] at h; subst h; exact ⟨[], by simp, trivial⟩
  | r :: rs, vs, h => by
    simp only [resAll] at h
    split at h
    · rename_i v vs' h1 h2
      obtain rfl := Option.some.inj h
      obtain ⟨u, hu, hv⟩ := resOne_sound (P := P) hr h1
      obtain ⟨us, hus, hvs⟩ := resAll_sound hr h2
      refine ⟨u :: us, ?_, hv, hvs⟩
      rw [List.mapM_cons]
      simp only [Sem.run_bind, hu, Result.andThen_ok, hus, Sem.run_pure]
    · simp at h

theorem resOf_sound {N : Nat} {β : Names} {s : St} {a : Act} {w : World} (hr : Rel N β s a w) {fn : Func} {v : Value} (h : resOf P s fn.results.toList = some v) :
    ∃ u, (results fn a.tmps).run P w = .ok u w ∧ VT β v u := by
  have key : ∀ vs us : List Value, (fn.results.toList.mapM (resF a.tmps)).run P w = .ok us w →
      (results fn a.tmps).run P w = .ok (if h : us.toArray.size = 1 then us.toArray[0] else .tuple us.toArray) w := by
    intro vs us hus
    rw [results_eq, Array.mapM_eq_mapM_toList]
    simp only [Sem.run_bind, Sem.run_map, hus, Result.andThen_ok, Sem.run_pure]
  unfold resOf at h
  split at h
  · rename_i x hx
    split at h
    · simp at h
    · obtain rfl := Option.some.inj h
      obtain ⟨us, hus, hv⟩ := resAll_sound (P := P) hr hx
      obtain ⟨u, rfl⟩ : ∃ u, us = [u] := by
        cases us with
        | nil => exact hv.elim
        | cons u us => cases us with
          | nil => exact ⟨u, rfl⟩
          | cons _ _ => exact hv.2.elim
      exact ⟨u, by rw [key [x] _ hus]; simp, hv.1⟩
  · rename_i vs hnot hx
    split at h
    · rename_i ht
      obtain rfl := Option.some.inj h
      obtain ⟨us, hus, hv⟩ := resAll_sound (P := P) hr hx
      have hl := hv.length
      refine ⟨.tuple us.toArray, ?_, ⟨us.toArray, rfl, by simpa using hv.VA_of_VT ht⟩⟩
      rw [key vs _ hus, dif_neg]
      intro e
      have hvl : vs.length = 1 := by simpa [hl] using e
      obtain ⟨x, rfl⟩ := List.length_eq_one_iff.mp hvl
      exact hnot x rfl
    · simp at h
  · simp at h

/-! #### names told anew: what a function made gets the first new names, the rest is dropped -/

def renA (ρ : Nat → Nat) : Value → Value
  | .pointer (some a) => .pointer (some { a with block := ρ a.block })
  | .slice (some a) n e => .slice (some { a with block := ρ a.block }) n e
  | .map (some r) => .map (some (ρ r))
  | v => v
def renC (ρ : Nat → Nat) : Value → Value
  | .func fn fs cs => .func fn fs (cs.map (renA ρ))
  | v => renA ρ v
def renV (ρ : Nat → Nat) : Value → Value
  | .agg cs => .agg (cs.map (renC ρ))
  | v => renC ρ v
def renT (ρ : Nat → Nat) : Value → Value
  | .tuple cs => .tuple (cs.map (renV ρ))
  | v => renV ρ v

/-- All names in a value are below `n`. -/
def ltA (n : Nat) : Value → Bool
  | .pointer (some a) => a.block < n
  | .slice (some a) _ _ => a.block < n
  | .map (some r) => r < n
  | _ => true
def ltC (n : Nat) : Value → Bool
  | .func _ _ cs => cs.toList.all (ltA n)
  | v => ltA n v
def ltV (n : Nat) : Value → Bool
  | .agg cs => cs.toList.all (ltC n)
  | v => ltC n v
def ltT (n : Nat) : Value → Bool
  | .tuple cs => cs.toList.all (ltV n)
  | v => ltV n v

theorem V0.ren {β β' : Names} {ρ : Nat → Nat} {n : Nat} (h : ∀ x, x < n → β' x = β (ρ x)) {c v : Value} (hl : ltA n c = true) (hv : V0 β (renA ρ c) v) : V0 β' c v := by
  cases c with
  | pointer a => cases a with
    | none => exact hv
    | some a => obtain ⟨l, h1, h2⟩ := hv; exact ⟨l, by rw [h _ (by simpa [ltA] using hl)]; exact h1, h2⟩
  | slice a k e => cases a with
    | none => exact hv
    | some a => obtain ⟨l, c, h1, h2⟩ := hv; exact ⟨l, c, by rw [h _ (by simpa [ltA] using hl)]; exact h1, h2⟩
  | map r => cases r with
    | none => exact hv
    | some r => obtain ⟨l, h1, h2⟩ := hv; exact ⟨l, by rw [h _ (by simpa [ltA] using hl)]; exact h1, h2⟩
  | _ => exact hv

theorem All2.ren {R S : Value → Value → Prop} {f : Value → Value} {p : Value → Bool} (h : ∀ a b, p a = true → R (f a) b → S a b) : ∀ {l m : List Value}, l.all p = true → All2 R (l.map f) m → All2 S l m
  | [], [], _, _ => trivial
  | a :: l, b :: m, hp, hh => by simp at hp; exact ⟨h _ _ hp.1 hh.1, All2.ren h (by simpa using hp.2) hh.2⟩
  | [], _ :: _, _, hh => hh.elim
  | _ :: _, [], _, hh => hh.elim

theorem VC.ren {β β' : Names} {ρ : Nat → Nat} {n : Nat} (h : ∀ x, x < n → β' x = β (ρ x)) {c v : Value} (hl : ltC n c = true) (hv : VC β (renC ρ c) v) : VC β' c v := by
  by_cases hc : ∃ fn fs cs, c = .func fn fs cs
  · obtain ⟨fn, fs, cs, rfl⟩ := hc
    obtain ⟨h1, cs', h2, h3⟩ := hv
    exact ⟨h1, cs', h2, All2.ren (fun a b => V0.ren h) hl (by simpa using h3)⟩
  · have e1 : ltC n c = ltA n c := by cases c <;> first | rfl | exact absurd ⟨_, _, _, rfl⟩ hc
    have e2 : renC ρ c = renA ρ c := by cases c <;> first | rfl | exact absurd ⟨_, _, _, rfl⟩ hc
    have e3 : ∀ β, VC β (renA ρ c) v = V0 β (renA ρ c) v := by
      intro β
      cases c with
      | pointer a => cases a <;> rfl
      | slice a _ _ => cases a <;> rfl
      | map r => cases r <;> rfl
      | _ => first | rfl | exact absurd ⟨_, _, _, rfl⟩ hc
    have e4 : VC β' c v = V0 β' c v := by cases c <;> first | rfl | exact absurd ⟨_, _, _, rfl⟩ hc
    rw [e2, e3] at hv
    rw [e4]
    exact V0.ren h (e1 ▸ hl) hv

theorem VA.ren {β β' : Names} {ρ : Nat → Nat} {n : Nat} (h : ∀ x, x < n → β' x = β (ρ x)) {c v : Value} (hl : ltV n c = true) (hv : VA β (renV ρ c) v) : VA β' c v := by
  by_cases hc : ∃ cs, c = .agg cs
  · obtain ⟨cs, rfl⟩ := hc
    obtain ⟨cs', h2, h3⟩ := hv
    exact ⟨cs', h2, All2.ren (fun a b => VC.ren h) hl (by simpa using h3)⟩
  · have e1 : ltV n c = ltC n c := by cases c <;> first | rfl | exact absurd ⟨_, rfl⟩ hc
    have e2 : renV ρ c = renC ρ c := by cases c <;> first | rfl | exact absurd ⟨_, rfl⟩ hc
    have e3 : ∀ β, VA β (renC ρ c) v = VC β (renC ρ c) v := by
      intro β
      cases c with
      | pointer a => cases a <;> rfl
      | slice a _ _ => cases a <;> rfl
      | map r => cases r <;> rfl
      | _ => first | rfl | exact absurd ⟨_, rfl⟩ hc
    have e4 : VA β' c v = VC β' c v := by cases c <;> first | rfl | exact absurd ⟨_, rfl⟩ hc
    rw [e2, e3] at hv
    rw [e4]
    exact VC.ren h (e1 ▸ hl) hv

theorem VT.ren {β β' : Names} {ρ : Nat → Nat} {n : Nat} (h : ∀ x, x < n → β' x = β (ρ x)) {c v : Value} (hl : ltT n c = true) (hv : VT β (renT ρ c) v) : VT β' c v := by
  by_cases hc : ∃ cs, c = .tuple cs
  · obtain ⟨cs, rfl⟩ := hc
    obtain ⟨cs', h2, h3⟩ := hv
    exact ⟨cs', h2, All2.ren (fun a b => VA.ren h) hl (by simpa using h3)⟩
  · have e1 : ltT n c = ltV n c := by cases c <;> first | rfl | exact absurd ⟨_, rfl⟩ hc
    have e2 : renT ρ c = renV ρ c := by cases c <;> first | rfl | exact absurd ⟨_, rfl⟩ hc
    have e3 : ∀ β, VT β (renV ρ c) v = VA β (renV ρ c) v := by
      intro β
      cases c with
      | pointer a => cases a <;> rfl
      | slice a _ _ => cases a <;> rfl
      | map r => cases r <;> rfl
      | _ => first | rfl | exact absurd ⟨_, rfl⟩ hc
    have e4 : VT β' c v = VA β' c v := by cases c <;> first | rfl | exact absurd ⟨_, rfl⟩ hc
    rw [e2, e3] at hv
    rw [e4]
    exact VA.ren h (e1 ▸ hl) hv

/-- A block of the smaller heap, out of a block of the greater one. -/
def BlkRen (ρ : Nat → Nat) (n : Nat) : Blk → Option Blk → Prop
  | .cells ro cs, some (.cells ro' cs') => ro' = ro ∧ cs' = cs.map (renC ρ) ∧ cs.all (ltC n) = true
  | .map es, some (.map es') => es' = es.map (fun p => (renC ρ p.1, renC ρ p.2)) ∧ es.all (fun p => ltC n p.1 && ltC n p.2) = true
  | _, _ => False

/-- The end of a body: the names of what is handed back. -/
structure Ends (P : Program) (fn : Func) (H : Heap) (n : Nat) (s : St) (v : Value) (H' : Heap) (n' : Nat) : Prop where
  ex : ∃ ρ : Nat → Nat, (∀ x, x < n → ρ x = x) ∧ resOf P s fn.results.toList = some (renT ρ v) ∧ ltT n' v = true ∧
    (∀ x b, H' x = some b → (x < n ∧ H x = some b ∧ s.H x = some b) ∨ (x < n' ∧ BlkRen ρ n' b (s.H (ρ x)))) ∧ (∀ x y, x < n' → y < n' → x ≠ y → ρ x ≠ ρ y)

theorem renA_lt {ρ : Nat → Nat} {n : Nat} (h : ∀ x, x < n → ρ x = x) {v : Value} (hv : ltA n v = true) : renA ρ v = v := by
  cases v with
  | pointer a => cases a with
    | none => rfl
    | some a => simp [ltA] at hv; simp [renA, h _ hv]
  | slice a _ _ => cases a with
    | none => rfl
    | some a => simp [ltA] at hv; simp [renA, h _ hv]
  | map r => cases r with
    | none => rfl
    | some r => simp [ltA] at hv; simp [renA, h _ hv]
  | _ => rfl
theorem renC_lt {ρ : Nat → Nat} {n : Nat} (h : ∀ x, x < n → ρ x = x) {v : Value} (hv : ltC n v = true) : renC ρ v = v := by
  unfold ltC at hv
  split at hv
  · rename_i fn fs cs
    simp only [renC]
    congr 1
    refine Array.toList_inj.mp ?_
    rw [Array.toList_map]
    rw [List.all_eq_true] at hv
    calc cs.toList.map (renA ρ) = cs.toList.map id := List.map_congr_left fun v hv' => renA_lt h (hv v hv')
      _ = cs.toList := List.map_id _
  · rename_i hc
    have : renC ρ v = renA ρ v := by
      unfold renC
      split
      · exact absurd rfl (hc _ _ _)
      · rfl
    rw [this]
    exact renA_lt h hv

theorem ltA_mono {n m : Nat} (h : n ≤ m) {v : Value} (hv : ltA n v = true) : ltA m v = true := by
  unfold ltA at hv ⊢
  split at hv <;> simp_all <;> omega
theorem all_mono {p q : Value → Bool} (h : ∀ v, p v = true → q v = true) {l : List Value} (hl : l.all p = true) : l.all q = true := by
  rw [List.all_eq_true] at hl ⊢
  exact fun v hv => h v (hl v hv)
theorem ltC_mono {n m : Nat} (h : n ≤ m) {v : Value} (hv : ltC n v = true) : ltC m v = true := by
  unfold ltC at hv ⊢
  split at hv
  · exact all_mono (fun v => ltA_mono h) hv
  · exact ltA_mono h hv

theorem V0.lt {β : Names} {n : Nat} (hf : ∀ x, n ≤ x → β x = none) {c v : Value} (hv : V0 β c v) : ltA n c = true := by
  have key : ∀ x l, β x = some l → x < n := fun x l hx => by
    rcases Nat.lt_or_ge x n with g | g
    · exact g
    · rw [hf x g] at hx; simp at hx
  cases c with
  | pointer a => cases a with
    | none => rfl
    | some a => obtain ⟨l, h1, _⟩ := hv; simp [ltA]; exact key _ _ h1
  | slice a _ _ => cases a with
    | none => rfl
    | some a => obtain ⟨l, c, h1, _⟩ := hv; simp [ltA]; exact key _ _ h1
  | map r => cases r with
    | none => rfl
    | some r => obtain ⟨l, h1, _⟩ := hv; simp [ltA]; exact key _ _ h1
  | _ => rfl
theorem All2.lt {R : Value → Value → Prop} {p : Value → Bool} (h : ∀ a b, R a b → p a = true) : ∀ {l m : List Value}, All2 R l m → l.all p = true
  | [], [], _ => rfl
  | a :: l, b :: m, hh => by simp; exact ⟨h _ _ hh.1, by simpa using All2.lt h hh.2⟩
  | [], _ :: _, hh => hh.elim
  | _ :: _, [], hh => hh.elim
theorem VC.lt {β : Names} {n : Nat} (hf : ∀ x, n ≤ x → β x = none) {c v : Value} (hv : VC β c v) : ltC n c = true := by
  by_cases hc : ∃ fn fs cs, c = .func fn fs cs
  · obtain ⟨fn, fs, cs, rfl⟩ := hc
    obtain ⟨_, cs', _, h⟩ := hv
    exact All2.lt (R := V0 β) (fun _ _ hh => V0.lt hf hh) h
  · have e1 : ltC n c = ltA n c := by cases c <;> first | rfl | exact absurd ⟨_, _, _, rfl⟩ hc
    have e2 : VC β c v = V0 β c v := by cases c <;> first | rfl | exact absurd ⟨_, _, _, rfl⟩ hc
    rw [e1]; exact V0.lt hf (e2 ▸ hv)

/-- A block of the heap before, as a block of the heap behind. -/
theorem BlkRen.old {β : Names} {ρ : Nat → Nat} {n n' : Nat} (h : ∀ x, x < n → ρ x = x) (hf : ∀ x, n ≤ x → β x = none) (hn : n ≤ n') {w : World} {l : Loc} {b : Blk} (hb : BlkOk β w l b) : BlkRen ρ n' b (some b) := by
  cases b with
  | cells ro cs =>
    obtain ⟨c, el, fz, h1, h2, h3, h4, h5⟩ := hb
    have hlt : ∀ v ∈ cs, ltC n v = true := by
      intro v hv
      obtain ⟨i, hi⟩ := List.mem_iff_getElem?.mp hv
      obtain ⟨u, _, hu⟩ := h4 i v hi
      exact hu.lt hf
    refine ⟨rfl, ?_, List.all_eq_true.mpr fun v hv => ltC_mono hn (hlt v hv)⟩
    calc cs = cs.map id := (List.map_id _).symm
      _ = cs.map (renC ρ) := List.map_congr_left fun v hv => (renC_lt h (hlt v hv)).symm
  | map es =>
    obtain ⟨arr, clk, h1, h2⟩ := hb
    have hlt : ∀ p ∈ es, ltC n p.1 = true ∧ ltC n p.2 = true := by
      clear h1
      generalize arr.toList = m at h2
      induction es generalizing m with
      | nil => intro p hp; simp at hp
      | cons q es ih => cases m with
        | nil => exact h2.elim
        | cons r m =>
          intro p hp
          simp at hp
          rcases hp with rfl | hp
          · exact ⟨h2.1.1.lt hf, h2.1.2.lt hf⟩
          · exact ih m h2.2 p hp
    refine ⟨?_, List.all_eq_true.mpr fun p hp => by simp [ltC_mono hn (hlt p hp).1, ltC_mono hn (hlt p hp).2]⟩
    calc es = es.map id := (List.map_id _).symm
      _ = es.map (fun p => (renC ρ p.1, renC ρ p.2)) := List.map_congr_left fun p hp => by rw [renC_lt h (hlt p hp).1, renC_lt h (hlt p hp).2]; rfl

theorem BlkRen.ok {β β' : Names} {ρ : Nat → Nat} {n : Nat} (h : ∀ x, x < n → β' x = β (ρ x)) {w : World} {l : Loc} {b : Blk} {b' : Option Blk} (hb : BlkRen ρ n b b') (hk : ∀ c, b' = some c → BlkOk β w l c) :
    BlkOk β' w l b ∧ (∃ c, b' = some c ∧ c.rw = b.rw) := by
  cases b with
  | cells ro cs =>
    cases b' with
    | none => exact hb.elim
    | some c => cases c with
      | map _ => exact hb.elim
      | cells ro' cs' =>
        obtain ⟨rfl, rfl, hl⟩ := hb
        obtain ⟨c, el, fz, h1, h2, h3, h4, h5⟩ := hk _ rfl
        refine ⟨⟨c, el, fz, h1, h2, by simpa using h3, fun i v hi => ?_, h5⟩, _, rfl, rfl⟩
        obtain ⟨u, hu, huv⟩ := h4 i (renC ρ v) (by simp [hi])
        exact ⟨u, hu, VC.ren h (List.all_eq_true.mp hl v (List.mem_of_getElem? hi)) huv⟩
  | map es =>
    cases b' with
    | none => exact hb.elim
    | some c => cases c with
      | cells _ _ => exact hb.elim
      | map es' =>
        obtain ⟨rfl, hl⟩ := hb
        obtain ⟨arr, clk, h1, h2⟩ := hk _ rfl
        refine ⟨⟨arr, clk, h1, ?_⟩, _, rfl, rfl⟩
        clear h1 hk
        generalize arr.toList = m at h2 ⊢
        induction es generalizing m with
        | nil => cases m with
          | nil => trivial
          | cons _ _ => exact h2.elim
        | cons p es ih => cases m with
          | nil => exact h2.elim
          | cons q m =>
            simp at hl
            exact ⟨⟨VC.ren h hl.1.1 h2.1.1, VC.ren h hl.1.2 h2.1.2⟩, ih (by simpa using hl.2) m h2.2⟩

theorem Fn.intro {f : FuncId} {fn : Func} {c : Code} {args : List Value} {H H' : Heap} {n n' : Nat} {v : Value} (hf : P.funcs[f]? = some fn) (hb : fn.body = some c)
    (hname : (fn.name == "runtime.NumGoroutine") = false) (ha : args.length ≤ fn.ntmps) (hn : n ≤ n')
    (h : W P fn.ntmps c ⟨(List.range args.length).zip args, H, n⟩ fun e s => (e = .normal ∨ e = .ret) ∧ Ends P fn H n s v H' n') : Fn P f args H n v H' n' := by
  refine ⟨⟨fn, hf, by simp [hb], hname⟩, hn, fun β cargs w hargs hs hfresh => ?_⟩
  refine calls_of_wp hf hb ?_
  have hal : cargs.size = args.length := by have := hargs.length; simpa using this.symm
  have hget : ∀ (l : List Value) (k t : Nat) (v : Value), get ((List.range' k l.length).zip l) t = some v → k ≤ t ∧ l[t - k]? = some v := by
    intro l
    induction l with
    | nil => intro k t v h; simp [get] at h
    | cons x l ih =>
      intro k t v h
      simp only [List.length_cons, List.range'_succ, List.zip_cons_cons, get] at h
      split at h
      · rename_i e; subst e; obtain rfl := Option.some.inj h; exact ⟨Nat.le_refl _, by simp⟩
      · rename_i e
        obtain ⟨h1, h2⟩ := ih (k + 1) t v h
        refine ⟨by omega, ?_⟩
        rw [show t - k = (t - (k + 1)) + 1 by omega]
        simpa using h2
  have hrel : Rel fn.ntmps β ⟨(List.range args.length).zip args, H, n⟩ { tmps := cargs ++ Array.replicate (fn.ntmps - cargs.size) undef, defers := [] } w := by
    refine ⟨rfl, by simp; omega, fun t v ht => ?_, hs, hfresh⟩
    rw [List.range_eq_range'] at ht
    obtain ⟨_, h2⟩ := hget args 0 t v ht
    obtain ⟨u, hu, huv⟩ := hargs.get _ _ h2
    refine ⟨u, ?_, VT.of_VA huv⟩
    have hu' : cargs[t]? = some u := by simpa using hu
    have hlt : t < cargs.size := (Array.getElem?_eq_some_iff.mp hu').1
    rw [Array.getElem?_append_left hlt]
    exact hu'
  refine wp_mono (h β _ w hrel) fun e a' w' hp => ?_
  obtain ⟨s', β1, ⟨he, ⟨ρ, r1, r2, r3, r4', r5⟩⟩, hn1, hr1, hg⟩ := hp
  have r4 : ∀ x b, H' x = some b → x < n' ∧ BlkRen ρ n' b (s'.H (ρ x)) := by
    intro x b hx
    rcases r4' x b hx with ⟨g1, g2, g3⟩ | g
    · obtain ⟨l, _, hk⟩ := hs.ok x b g2
      refine ⟨by omega, ?_⟩
      rw [r1 x g1, g3]
      exact BlkRen.old r1 hfresh hn hk
    · exact g
  obtain ⟨u, hu, huv⟩ := resOf_sound (P := P) hr1 r2
  let β' : Names := fun x => if x < n' then β1 (ρ x) else none
  have hβ' : ∀ x, x < n' → β' x = β1 (ρ x) := fun x hx => by simp [β', hx]
  have hend : ∃ u' β', Ending.returned u = .returned u' ∧ VT β' v u' ∧ Sat β' H' w' ∧ (∀ x, n' ≤ x → β' x = none) ∧ Grow n β H w β' H' w' := by
    refine ⟨u, β', rfl, huv.ren hβ' r3, ⟨?_, ?_⟩, fun x hx => by simp [β']; omega, ?_⟩
    · intro x b hx
      obtain ⟨hlt, hbr⟩ := r4 x b hx
      have hok : ∃ l, β1 (ρ x) = some l ∧ ∀ c, s'.H (ρ x) = some c → BlkOk β1 w' l c := by
        cases hH : s'.H (ρ x) with
        | none => rw [hH] at hbr; cases b <;> exact hbr.elim
        | some c => obtain ⟨l, h1, h2⟩ := hr1.sat.ok _ c hH; exact ⟨l, h1, fun d hd => by obtain rfl := Option.some.inj hd; exact h2⟩
      obtain ⟨l, h1, h2⟩ := hok
      exact ⟨l, by rw [hβ' x hlt]; exact h1, (hbr.ok hβ' h2).1⟩
    · intro x y b1 b2 l m hxy hx hy hrw hl hm
      obtain ⟨hltx, hbx⟩ := r4 x b1 hx
      obtain ⟨hlty, hby⟩ := r4 y b2 hy
      have dummy : ∀ (b : Blk) (x : Nat), BlkRen ρ n' b (s'.H (ρ x)) → ∃ c, s'.H (ρ x) = some c ∧ c.rw = b.rw := by
        intro b x hb
        cases hH : s'.H (ρ x) with
        | none => rw [hH] at hb; cases b <;> exact hb.elim
        | some c =>
          refine ⟨c, rfl, ?_⟩
          rw [hH] at hb
          cases b <;> cases c <;> simp only [BlkRen] at hb <;> first | exact hb.elim | (obtain ⟨rfl, _⟩ := hb; rfl)
      obtain ⟨c1, hc1, e1⟩ := dummy b1 x hbx
      obtain ⟨c2, hc2, _⟩ := dummy b2 y hby
      rw [hβ' x hltx] at hl
      rw [hβ' y hlty] at hm
      exact hr1.sat.sep _ _ c1 c2 l m (r5 x y hltx hlty hxy) hc1 hc2 (e1.trans hrw) hl hm
    · have back : ∀ (b : Blk) (x : Nat), BlkRen ρ n' b (s'.H (ρ x)) → ∃ c, s'.H (ρ x) = some c ∧ c.rw = b.rw := by
        intro b x hb
        cases hH : s'.H (ρ x) with
        | none => rw [hH] at hb; cases b <;> exact hb.elim
        | some c =>
          refine ⟨c, rfl, ?_⟩
          rw [hH] at hb
          cases b <;> cases c <;> simp only [BlkRen] at hb <;> first | exact hb.elim | (obtain ⟨rfl, _⟩ := hb; rfl)
      refine ⟨fun x hx => ?_, hg.os, hg.tape, hg.output, hg.size, hg.keep, ?_, ?_⟩
      · rw [hβ' x (by omega), r1 x hx]; exact hg.names x hx
      · rintro k ⟨x, b, l, hx, hrw, hl, rfl⟩
        obtain ⟨hlt, hbr⟩ := r4 x b hx
        rw [hβ' x hlt] at hl
        obtain ⟨c, hc, ec⟩ := back b x hbr
        refine hg.own _ ⟨ρ x, c, l, hc, ?_, hl, rfl⟩
        rcases hrw with g | g
        · exact .inl (ec.trans g)
        · refine .inr ?_
          rcases Nat.lt_or_ge (ρ x) n with e | e
          · exact absurd (by rw [r1 _ e]) (r5 (ρ x) x (by omega) hlt (by omega))
          · exact e
      · intro x hx h2
        cases hxb : H' x with
        | none => exact absurd hxb h2
        | some b =>
          obtain ⟨hlt, hbr⟩ := r4 x b hxb
          obtain ⟨c, hc, _⟩ := back b x hbr
          rw [r1 x hx] at hc
          exact hg.dom x hx (by rw [hc]; simp)
  rcases he with rfl | rfl
  · exact ⟨hr1.defers, u, hu, hend⟩
  · exact ⟨hr1.defers, u, hu, hend⟩

end Go.Sep
