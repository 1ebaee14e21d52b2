/- A relational layer between the machine's worlds and a canonical heap: names for blocks, capacities forgotten. -/
import Derived.Orders
import Derived.Below
import Derived.KernelRfl
namespace Go.Sep
open Go
set_option linter.unusedVariables false

/-! ### Names, values -/

/-- Where a named block lies: the machine's block, the first cell, how many cells the machine's block has. -/
structure Loc where
  blk : Nat
  base : Nat
  size : Nat

abbrev Names := Nat → Option Loc

/-- `β'` knows what `β` knows. -/
def Names.le (β β' : Names) : Prop := ∀ x l, β x = some l → β' x = some l

def All2 {α γ : Type} (R : α → γ → Prop) : List α → List γ → Prop
  | [], [] => True
  | a :: l, b :: m => R a b ∧ All2 R l m
  | _, _ => False

theorem All2.mono {α γ : Type} {R S : α → γ → Prop} (h : ∀ a b, R a b → S a b) : ∀ {l : List α} {m : List γ}, All2 R l m → All2 S l m
  | [], [], _ => trivial
  | _ :: _, _ :: _, hh => ⟨h _ _ hh.1, All2.mono h hh.2⟩
  | [], _ :: _, hh => hh.elim
  | _ :: _, [], hh => hh.elim

theorem All2.length {α γ : Type} {R : α → γ → Prop} : ∀ {l : List α} {m : List γ}, All2 R l m → l.length = m.length
  | [], [], _ => rfl
  | _ :: _, _ :: _, hh => by simp [All2.length hh.2]
  | [], _ :: _, hh => hh.elim
  | _ :: _, [], hh => hh.elim

theorem All2.append {α γ : Type} {R : α → γ → Prop} : ∀ {l : List α} {m : List γ} {l' : List α} {m' : List γ}, All2 R l m → All2 R l' m' → All2 R (l ++ l') (m ++ m')
  | [], [], _, _, _, h => h
  | _ :: _, _ :: _, _, _, hh, h => ⟨hh.1, All2.append hh.2 h⟩
  | [], _ :: _, _, _, hh, _ => hh.elim
  | _ :: _, [], _, _, hh, _ => hh.elim

theorem All2.get {α γ : Type} {R : α → γ → Prop} : ∀ {l : List α} {m : List γ}, All2 R l m → ∀ (i : Nat) (a : α), l[i]? = some a → ∃ b, m[i]? = some b ∧ R a b
  | [], [], _, i, a, h => by simp at h
  | x :: l, y :: m, hh, 0, a, h => ⟨y, by simp, by simp at h; exact h ▸ hh.1⟩
  | x :: l, y :: m, hh, i + 1, a, h => by
    simp at h
    obtain ⟨b, hb, hr⟩ := All2.get hh.2 i a h
    exact ⟨b, by simpa using hb, hr⟩
  | [], _ :: _, hh, _, _, _ => hh.elim
  | _ :: _, [], hh, _, _, _ => hh.elim

theorem All2.of_get {α γ : Type} {R : α → γ → Prop} : ∀ {l : List α} {m : List γ}, l.length = m.length → (∀ (i : Nat) (a : α), l[i]? = some a → ∃ b, m[i]? = some b ∧ R a b) → All2 R l m
  | [], [], _, _ => trivial
  | x :: l, y :: m, hl, h => ⟨by obtain ⟨b, hb, hr⟩ := h 0 x (by simp); simp at hb; exact hb ▸ hr,
      All2.of_get (by simpa using hl) (fun i a ha => by obtain ⟨b, hb, hr⟩ := h (i + 1) a (by simpa using ha); exact ⟨b, by simpa using hb, hr⟩)⟩
  | [], _ :: _, hl, _ => by simp at hl
  | _ :: _, [], hl, _ => by simp at hl

theorem All2.drop {α γ : Type} {R : α → γ → Prop} : ∀ (n : Nat) {l : List α} {m : List γ}, All2 R l m → All2 R (l.drop n) (m.drop n)
  | 0, _, _, h => by simpa using h
  | n + 1, [], [], _ => by simp [All2]
  | n + 1, _ :: _, _ :: _, h => by simpa using All2.drop n h.2
  | _ + 1, [], _ :: _, h => h.elim
  | _ + 1, _ :: _, [], h => h.elim

theorem All2.take {α γ : Type} {R : α → γ → Prop} : ∀ (n : Nat) {l : List α} {m : List γ}, All2 R l m → All2 R (l.take n) (m.take n)
  | 0, _, _, h => by simp [All2]
  | n + 1, [], [], _ => by simp [All2]
  | n + 1, _ :: _, _ :: _, h => by simpa [All2] using ⟨h.1, All2.take n h.2⟩
  | _ + 1, [], _ :: _, h => h.elim
  | _ + 1, _ :: _, [], h => h.elim

/-- A cell's value that is no function: the canonical one, the machine's. A canonical slice bears in the place of the capacity how many cells an element has;
    without a block: 0: nil, 1: no capacity, 2: empty. -/
def V0 (β : Names) : Value → Value → Prop
  | .pointer (some a), v => ∃ l, β a.block = some l ∧ a.spot = none ∧ v = .pointer (some ⟨l.blk, l.base + a.off, none⟩)
  | .slice (some a) n e, v => ∃ l c, β a.block = some l ∧ a.spot = none ∧ n ≤ c ∧ l.base + a.off + c * e ≤ l.size ∧ v = .slice (some ⟨l.blk, l.base + a.off, none⟩) n c
  | .slice none n e, v => n = 0 ∧ ((e = 0 ∧ v = .slice none 0 0) ∨ (e = 1 ∧ ∃ A, v = .slice A 0 0) ∨ (e = 2 ∧ ∃ A c, v = .slice A 0 c))
  | .map (some r), v => ∃ l, β r = some l ∧ v = .map (some l.blk)
  | .func _ _ _, _ | .agg _, _ | .tuple _, _ => False
  | c, v => c = v

/-- A cell's value. -/
def VC (β : Names) : Value → Value → Prop
  | .func fn fs cs, v => fs = #[] ∧ ∃ cs', v = .func fn #[] cs' ∧ All2 (V0 β) cs.toList cs'.toList
  | c, v => V0 β c v

/-- A value: a cell's, a struct's, an array's. -/
def VA (β : Names) : Value → Value → Prop
  | .agg cs, v => ∃ cs', v = .agg cs' ∧ All2 (VC β) cs.toList cs'.toList
  | c, v => VC β c v

/-- A value, or several. -/
def VT (β : Names) : Value → Value → Prop
  | .tuple cs, v => ∃ cs', v = .tuple cs' ∧ All2 (VA β) cs.toList cs'.toList
  | c, v => VA β c v

theorem V0.mono {β β' : Names} (h : β.le β') {c v : Value} (hv : V0 β c v) : V0 β' c v := by
  unfold V0 at *
  split <;> simp_all
  · obtain ⟨l, hl, hr⟩ := hv; exact ⟨l, h _ _ hl, hr⟩
  · obtain ⟨l, hl, hr⟩ := hv; exact ⟨l, h _ _ hl, hr⟩
  · obtain ⟨l, hl, hr⟩ := hv; exact ⟨l, h _ _ hl, hr⟩

theorem VC.mono {β β' : Names} (h : β.le β') {c v : Value} (hv : VC β c v) : VC β' c v := by
  cases c <;> simp only [VC] at hv ⊢ <;> first
    | exact V0.mono h hv
    | (obtain ⟨a, cs', b, d⟩ := hv; exact ⟨a, cs', b, d.mono fun _ _ => V0.mono h⟩)

theorem VA.mono {β β' : Names} (h : β.le β') {c v : Value} (hv : VA β c v) : VA β' c v := by
  cases c <;> simp only [VA] at hv ⊢ <;> first
    | exact VC.mono h hv
    | (obtain ⟨cs', b, d⟩ := hv; exact ⟨cs', b, d.mono fun _ _ => VC.mono h⟩)

theorem VT.mono {β β' : Names} (h : β.le β') {c v : Value} (hv : VT β c v) : VT β' c v := by
  cases c <;> simp only [VT] at hv ⊢ <;> first
    | exact VA.mono h hv
    | (obtain ⟨cs', b, d⟩ := hv; exact ⟨cs', b, d.mono fun _ _ => VA.mono h⟩)

theorem VA.of_VC {β : Names} {c v : Value} (h : VC β c v) : VA β c v := by
  cases c <;> first | exact h | exact h.elim
theorem VT.of_VA {β : Names} {c v : Value} (h : VA β c v) : VT β c v := by
  cases c <;> first | exact h | exact h.elim

/-! ### The canonical heap -/

inductive Blk where
  | cells (ro : Bool) (cs : List Value)
  | map (es : List (Value × Value))

/-- Owned: no other block lies in the same block of the machine. -/
def Blk.rw : Blk → Bool
  | .cells ro _ => !ro
  | .map _ => true

abbrev Heap := Nat → Option Blk

def Heap.set (H : Heap) (x : Nat) (b : Blk) : Heap := fun y => if y = x then some b else H y
def Heap.del (H : Heap) (x : Nat) : Heap := fun y => if y = x then none else H y
/-- `H` tells no more than `H'`. -/
def Heap.le (H H' : Heap) : Prop := ∀ x b, H x = some b → H' x = some b

theorem Heap.le.refl (H : Heap) : H.le H := fun _ _ h => h
theorem Heap.le.trans {A B C : Heap} (h : A.le B) (k : B.le C) : A.le C := fun x b hx => k x b (h x b hx)

def BlkOk (β : Names) (w : World) (l : Loc) : Blk → Prop
  | .cells ro cs => ∃ c el fz, w.heap[l.blk]? = some (.cells c el fz) ∧ c.size = l.size ∧ l.base + cs.length ≤ l.size ∧
      (∀ i v, cs[i]? = some v → ∃ u, c[l.base + i]? = some u ∧ VC β v u) ∧ (ro = false → fz = (0, 0))
  | .map es => ∃ arr clk, w.heap[l.blk]? = some (.map arr clk) ∧ All2 (fun p (q : MapEntry) => VC β p.1 q.key ∧ VC β p.2 q.val) es arr.toList

structure Sat (β : Names) (H : Heap) (w : World) : Prop where
  ok : ∀ x b, H x = some b → ∃ l, β x = some l ∧ BlkOk β w l b
  sep : ∀ x y b c l m, x ≠ y → H x = some b → H y = some c → b.rw = true → β x = some l → β y = some m → l.blk ≠ m.blk

theorem BlkOk.names {β β' : Names} (h : β.le β') {w : World} {l : Loc} {b : Blk} (hb : BlkOk β w l b) : BlkOk β' w l b := by
  cases b with
  | cells ro cs =>
    obtain ⟨c, el, fz, h1, h2, h3, h4, h5⟩ := hb
    refine ⟨c, el, fz, h1, h2, h3, fun i v hi => ?_, h5⟩
    obtain ⟨u, hu, hv⟩ := h4 i v hi
    exact ⟨u, hu, hv.mono h⟩
  | map es =>
    obtain ⟨arr, clk, h1, h2⟩ := hb
    exact ⟨arr, clk, h1, h2.mono fun _ _ hh => ⟨hh.1.mono h, hh.2.mono h⟩⟩

theorem BlkOk.world {β : Names} {w w' : World} {l : Loc} {b : Blk} (hb : BlkOk β w l b) (h : w'.heap[l.blk]? = w.heap[l.blk]?) : BlkOk β w' l b := by
  cases b <;> (unfold BlkOk at *; rw [h]; exact hb)

theorem BlkOk.lt {β : Names} {w : World} {l : Loc} {b : Blk} (hb : BlkOk β w l b) : l.blk < w.heap.size := by
  cases b with
  | cells ro cs => obtain ⟨c, el, fz, h1, _⟩ := hb; exact (Array.getElem?_eq_some_iff.mp h1).1
  | map es => obtain ⟨arr, clk, h1, _⟩ := hb; exact (Array.getElem?_eq_some_iff.mp h1).1

theorem Sat.le {β : Names} {H H' : Heap} {w : World} (h : Sat β H w) (hl : H'.le H) : Sat β H' w :=
  ⟨fun x b hx => h.ok x b (hl x b hx), fun x y b c l m hn hx hy => h.sep x y b c l m hn (hl _ _ hx) (hl _ _ hy)⟩

/-- The machine's blocks that the heap owns. -/
def Own (β : Names) (H : Heap) (k : Nat) : Prop := ∃ x b l, H x = some b ∧ b.rw = true ∧ β x = some l ∧ l.blk = k

theorem Own.le {β : Names} {H H' : Heap} {k : Nat} (h : Own β H' k) (hl : H'.le H) : Own β H k := by
  obtain ⟨x, b, l, h1, h2⟩ := h; exact ⟨x, b, l, hl _ _ h1, h2⟩

/-- Blocks of the machine that a heap owns, or that it names by a name from `n` on. -/
def Has (n : Nat) (β : Names) (H : Heap) (k : Nat) : Prop := ∃ x b l, H x = some b ∧ (b.rw = true ∨ n ≤ x) ∧ β x = some l ∧ l.blk = k

theorem Own.has {n : Nat} {β : Names} {H : Heap} {k : Nat} (h : Own β H k) : Has n β H k := by
  obtain ⟨x, b, l, h1, h2, h3⟩ := h; exact ⟨x, b, l, h1, .inl h2, h3⟩
theorem Has.le {n : Nat} {β : Names} {H H' : Heap} {k : Nat} (h : Has n β H' k) (hl : H'.le H) : Has n β H k := by
  obtain ⟨x, b, l, h1, h2⟩ := h; exact ⟨x, b, l, hl _ _ h1, h2⟩
theorem Has.mono {n m : Nat} {β : Names} {H : Heap} {k : Nat} (h : Has n β H k) (hm : m ≤ n) : Has m β H k := by
  obtain ⟨x, b, l, h1, h2, h3⟩ := h; exact ⟨x, b, l, h1, h2.imp id (Nat.le_trans hm), h3⟩

/-- What a run does to the machine's world: it writes only to what the heap owns, and owns behind it only that and what is new. -/
structure Grow (n : Nat) (β : Names) (H : Heap) (w : World) (β' : Names) (H' : Heap) (w' : World) : Prop where
  names : ∀ x, x < n → β' x = β x
  os : w'.os = w.os
  tape : w'.tape = w.tape
  output : w'.output = w.output
  size : w.heap.size ≤ w'.heap.size
  keep : ∀ k, k < w.heap.size → ¬ Own β H k → w'.heap[k]? = w.heap[k]?
  own : ∀ k, Has n β' H' k → Own β H k ∨ w.heap.size ≤ k
  dom : ∀ x, x < n → H' x ≠ none → H x ≠ none

theorem Has.own {n : Nat} {β : Names} {H : Heap} {k : Nat} (hf : ∀ x, n ≤ x → β x = none) (h : Has n β H k) : Own β H k := by
  obtain ⟨x, b, l, h1, h2 | h2, h3, h4⟩ := h
  · exact ⟨x, b, l, h1, h2, h3, h4⟩
  · rw [hf x h2] at h3; simp at h3

theorem Grow.refl {n : Nat} {β : Names} (H : Heap) (w : World) (hf : ∀ x, n ≤ x → β x = none) : Grow n β H w β H w :=
  ⟨fun _ _ => rfl, rfl, rfl, rfl, Nat.le_refl _, fun _ _ _ => rfl, fun _ h => .inl (h.own hf), fun _ _ h => h⟩

theorem Grow.trans {n n1 : Nat} {β β1 β2 : Names} {H H1 H2 : Heap} {w w1 w2 : World} (h : Grow n β H w β1 H1 w1) (hn : n ≤ n1) (k : Grow n1 β1 H1 w1 β2 H2 w2) :
    Grow n β H w β2 H2 w2 where
  names x hx := (k.names x (by omega)).trans (h.names x hx)
  os := k.os.trans h.os
  tape := k.tape.trans h.tape
  output := k.output.trans h.output
  size := Nat.le_trans h.size k.size
  keep j hj ho := by
    have hj1 : j < w1.heap.size := Nat.lt_of_lt_of_le hj h.size
    refine (k.keep j hj1 fun ho1 => ?_).trans (h.keep j hj ho)
    rcases h.own j ho1.has with h1 | h1
    · exact ho h1
    · omega
  own j ho := by
    have back : Has n β1 H1 j → Own β H j ∨ w.heap.size ≤ j := h.own j
    obtain ⟨x, b, l, h1, h2, h3, h4⟩ := ho
    by_cases hx : b.rw = true ∨ n1 ≤ x
    · rcases k.own j ⟨x, b, l, h1, hx, h3, h4⟩ with g | g
      · exact back g.has
      · exact .inr (Nat.le_trans h.size g)
    · have hx1 : x < n1 := by
        rcases Nat.lt_or_ge x n1 with g | g
        · exact g
        · exact absurd (.inr g) hx
      have hnx : n ≤ x := by
        rcases h2 with g | g
        · exact absurd (.inl g) hx
        · exact g
      have hd := k.dom x hx1 (by rw [h1]; simp)
      rw [k.names x hx1] at h3
      cases hH : H1 x with
      | none => exact absurd hH hd
      | some b1 => exact back ⟨x, b1, l, hH, .inr hnx, h3, h4⟩
  dom x hx h2 := h.dom x hx (k.dom x (by omega) h2)

theorem Grow.mono {n m : Nat} {β β' : Names} {H H' : Heap} {w w' : World} (h : Grow n β H w β' H' w') (hm : m ≤ n) (hf : ∀ x, m ≤ x → β x = none) : Grow m β H w β' H' w' where
  names x hx := h.names x (by omega)
  os := h.os
  tape := h.tape
  output := h.output
  size := h.size
  keep := h.keep
  own k hk := by
    obtain ⟨x, b, l, h1, h2, h3, h4⟩ := hk
    by_cases hx : b.rw = true ∨ n ≤ x
    · exact h.own k ⟨x, b, l, h1, hx, h3, h4⟩
    · have hxn : x < n := by
        rcases Nat.lt_or_ge x n with g | g
        · exact g
        · exact absurd (.inr g) hx
      have hmx : m ≤ x := by
        rcases h2 with g | g
        · exact absurd (.inl g) hx
        · exact g
      rw [h.names x hxn, hf x hmx] at h3
      simp at h3
  dom x hx := h.dom x (by omega)

/-- A smaller heap before, a smaller heap behind. -/
theorem Grow.weaken {n : Nat} {β β' : Names} {H G H' G' : Heap} {w w' : World} (h : Grow n β G w β' H' w') (hG : G.le H) (hG' : G'.le H') : Grow n β H w β' G' w' :=
  { h with
    keep := fun k hk ho => h.keep k hk fun ho' => ho (ho'.le hG)
    own := fun k ho => (h.own k (ho.le hG')).imp (fun o => o.le hG) id
    dom := fun x hx h2 => by
      cases hg : G' x with
      | none => exact absurd hg h2
      | some b =>
        have h3 := h.dom x hx (by rw [hG' x b hg]; simp)
        cases hG0 : G x with
        | none => exact absurd hG0 h3
        | some c => rw [hG x c hG0]; simp }

/-! ### The canonical state -/

abbrev Temps := List (Nat × Value)
def get : Temps → Nat → Option Value
  | [], _ => none
  | (k, v) :: r, t => if k = t then some v else get r t

structure St where
  ts : Temps
  H : Heap
  n : Nat

structure Rel (N : Nat) (β : Names) (s : St) (a : Act) (w : World) : Prop where
  defers : a.defers = []
  size : a.tmps.size = N
  tmp : ∀ t v, get s.ts t = some v → ∃ u, a.tmps[t]? = some u ∧ VT β v u
  sat : Sat β s.H w
  fresh : ∀ x, s.n ≤ x → β x = none

/-- `s'` tells no more than `s` (and may begin its new names later). -/
structure Less (s' s : St) : Prop where
  ts : ∀ t v, get s'.ts t = some v → get s.ts t = some v
  heap : s'.H.le s.H
  n : s.n ≤ s'.n

theorem Less.refl (s : St) : Less s s := ⟨fun _ _ h => h, Heap.le.refl _, Nat.le_refl _⟩
theorem Less.trans {a b c : St} (h : Less a b) (k : Less b c) : Less a c := ⟨fun t v hh => k.ts t v (h.ts t v hh), h.heap.trans k.heap, Nat.le_trans k.n h.n⟩

theorem Rel.less {N : Nat} {β : Names} {s s' : St} {a : Act} {w : World} (h : Rel N β s a w) (hl : Less s' s) : Rel N β s' a w :=
  ⟨h.defers, h.size, fun t v ht => h.tmp t v (hl.ts t v ht), h.sat.le hl.heap, fun x hx => h.fresh x (Nat.le_trans hl.n hx)⟩

/-! ### The triple for code -/

/-- What the machine's end must be for a canonical post `Q`. -/
def Post (N : Nat) (β : Names) (s : St) (w : World) (Q : Exit → St → Prop) : Exit → Act → World → Prop :=
  fun e a' w' => ∃ s' β', Q e s' ∧ s.n ≤ s'.n ∧ Rel N β' s' a' w' ∧ Grow s.n β s.H w β' s'.H w'

def W (P : Program) (N : Nat) (c : Code) (s : St) (Q : Exit → St → Prop) : Prop :=
  ∀ β a w, Rel N β s a w → c.wp P (Post N β s w Q) a w

variable {P : Program} {N : Nat} {s : St} {Q : Exit → St → Prop}

theorem Post.here {β : Names} {a : Act} {w : World} {e : Exit} (hr : Rel N β s a w) (h : Q e s) : Post N β s w Q e a w :=
  ⟨s, β, h, Nat.le_refl _, hr, Grow.refl _ _ hr.fresh⟩

theorem Post.trans {β β1 : Names} {s1 : St} {w w1 w2 : World} {a2 : Act} {e : Exit} {Q' : Exit → St → Prop} (hn : s.n ≤ s1.n) (hg : Grow s.n β s.H w β1 s1.H w1)
    (hq : ∀ s, Q' e s → Q e s) (h : Post N β1 s1 w1 Q' e a2 w2) : Post N β s w Q e a2 w2 := by
  obtain ⟨s2, β2, hQ, hn2, hr, hg2⟩ := h
  exact ⟨s2, β2, hq _ hQ, Nat.le_trans hn hn2, hr, hg.trans hn hg2⟩

theorem W.mono {c : Code} {Q' : Exit → St → Prop} (h : W P N c s Q) (hq : ∀ e s, Q e s → Q' e s) : W P N c s Q' := fun β a w hr =>
  wp_mono (h β a w hr) fun e a' w' ⟨s', β', hQ, r⟩ => ⟨s', β', hq _ _ hQ, r⟩

/-- What is known may be forgotten ahead of the code .. -/
theorem W.less {c : Code} {s' : St} (hl : Less s' s) (h : W P N c s' Q) : W P N c s Q := fun β a w hr =>
  wp_mono (h β a w (hr.less hl)) fun e a' w' ⟨s2, β', hQ, hn, hr2, hg⟩ =>
    ⟨s2, β', hQ, Nat.le_trans hl.n hn, hr2, (hg.mono hl.n hr.fresh).weaken hl.heap (Heap.le.refl _)⟩

/-- .. and behind it. -/
theorem W.post {c : Code} (h : W P N c s fun e s1 => ∃ s2, Less s2 s1 ∧ Q e s2) : W P N c s Q := fun β a w hr =>
  wp_mono (h β a w hr) fun e a' w' ⟨s1, β', ⟨s2, hl, hQ⟩, hn, hr2, hg⟩ =>
    ⟨s2, β', hQ, Nat.le_trans hn hl.n, hr2.less hl, hg.weaken (Heap.le.refl _) hl.heap⟩

/-- No block has a name that is still new. -/
theorem W.fresh {c : Code} (h : (∀ x, s.n ≤ x → s.H x = none) → W P N c s Q) : W P N c s Q := fun β a w hr =>
  h (fun x hx => by
    cases hH : s.H x with
    | none => rfl
    | some b => obtain ⟨l, hl, _⟩ := hr.sat.ok x b hH; rw [hr.fresh x hx] at hl; simp at hl) β a w hr

theorem W.skip (h : Q .normal s) : W P N .skip s Q := fun _ _ _ hr => wp_skip (Post.here hr h)
theorem W.ret (h : Q .ret s) : W P N .ret s Q := fun _ _ _ hr => wp_ret (Post.here hr h)
theorem W.exit {id : Nat} (h : Q (.exit id) s) : W P N (.exit id) s Q := fun _ _ _ hr => wp_exit (Post.here hr h)

/-- Behind the first of two: the second. -/
def thenS (K : St → Prop) (Q : Exit → St → Prop) : Exit → St → Prop
  | .normal, s => K s
  | e, s => Q e s

theorem W.seq {c d : Code} (h : W P N c s (thenS (fun s1 => W P N d s1 Q) Q)) : W P N (c.seq d) s Q := fun β a w hr =>
  wp_seq (wp_mono (h β a w hr) fun e a1 w1 hp => by
    obtain ⟨s1, β1, hQ, hn, hr1, hg⟩ := hp
    cases e with
    | normal => exact wp_mono (hQ β1 a1 w1 hr1) fun e2 a2 w2 h2 => Post.trans hn hg (fun _ h => h) h2
    | exit id => exact ⟨s1, β1, hQ, hn, hr1, hg⟩
    | goto l => exact ⟨s1, β1, hQ, hn, hr1, hg⟩
    | ret => exact ⟨s1, β1, hQ, hn, hr1, hg⟩
    | panic ch => exact ⟨s1, β1, hQ, hn, hr1, hg⟩
    | outgrown => exact ⟨s1, β1, hQ, hn, hr1, hg⟩)

def blockS (id : Nat) (Q : Exit → St → Prop) : Exit → St → Prop
  | .exit i, s => if i = id then Q .normal s else Q (.exit i) s
  | e, s => Q e s

theorem W.block {id : Nat} {c : Code} (h : W P N c s (blockS id Q)) : W P N (.block id c) s Q := fun β a w hr =>
  wp_block (wp_mono (h β a w hr) fun e a1 w1 hp => by
    obtain ⟨s1, β1, hQ, hn, hr1, hg⟩ := hp
    cases e with
    | exit i =>
      simp only [Exit.inBlock]
      by_cases hi : i = id
      · rw [if_pos hi]; simp only [blockS, hi, if_true] at hQ; exact ⟨s1, β1, hQ, hn, hr1, hg⟩
      · rw [if_neg hi]; simp only [blockS, hi, if_false] at hQ; exact ⟨s1, β1, hQ, hn, hr1, hg⟩
    | normal => exact ⟨s1, β1, hQ, hn, hr1, hg⟩
    | goto l => exact ⟨s1, β1, hQ, hn, hr1, hg⟩
    | ret => exact ⟨s1, β1, hQ, hn, hr1, hg⟩
    | panic ch => exact ⟨s1, β1, hQ, hn, hr1, hg⟩
    | outgrown => exact ⟨s1, β1, hQ, hn, hr1, hg⟩)

/-- A loop: a number that each round lowers (it may be chosen anew each round), and what holds at each round's head. -/
theorem W.loop {c : Code} (Inv : Nat → St → Prop) (k : Nat) (h0 : Inv k s)
    (round : ∀ k s, Inv k s → W P N c s (thenS (fun s' => ∃ k', k' < k ∧ Inv k' s') Q)) : W P N (.loop c) s Q := by
  intro β a w hr b kk cs
  have key : ∀ k, ∀ s β a w, Inv k s → Rel N β s a w →
      ∃ e a' w', Post N β s w Q e a' w' ∧ Arrives P (lone (b.at a (.code c :: .inLoop c :: kk)) cs w) b kk cs e a' w' := by
    intro k
    induction k using Nat.strongRecOn with
    | _ k ih =>
      intro s β a w hI hr
      obtain ⟨e, a₁, w₁, hq, harr⟩ := round k s hI β a w hr b (.inLoop c :: kk) cs
      obtain ⟨s1, β1, hQ, hn, hr1, hg⟩ := hq
      cases e with
      | normal =>
        obtain ⟨k', hlt, hI'⟩ := hQ
        obtain ⟨e₂, a₂, w₂, hq₂, harr₂⟩ := ih k' hlt s1 β1 a₁ w₁ hI' hr1
        exact ⟨e₂, a₂, w₂, Post.trans hn hg (fun _ h => h) hq₂, .of_steps (Steps.trans harr (.one step_inLoop)) harr₂⟩
      | exit id => exact ⟨_, a₁, w₁, ⟨s1, β1, hQ, hn, hr1, hg⟩, .pass (x := .inLoop c) rfl (fun _ _ => .inl (by simp)) harr⟩
      | goto l => exact ⟨_, a₁, w₁, ⟨s1, β1, hQ, hn, hr1, hg⟩, .pass (x := .inLoop c) rfl (fun _ _ => .inl (by simp)) harr⟩
      | ret => exact ⟨_, a₁, w₁, ⟨s1, β1, hQ, hn, hr1, hg⟩, .pass (x := .inLoop c) rfl (fun _ _ => .inl (by simp)) harr⟩
      | panic ch => exact ⟨_, a₁, w₁, ⟨s1, β1, hQ, hn, hr1, hg⟩, .pass (x := .inLoop c) rfl (fun _ _ => .inl (by simp)) harr⟩
      | outgrown => exact ⟨_, a₁, w₁, ⟨s1, β1, hQ, hn, hr1, hg⟩, .pass (x := .inLoop c) rfl (fun _ _ => .inl (by simp)) harr⟩
  obtain ⟨e, a', w', hq, harr⟩ := key k s β a w h0 hr
  exact ⟨e, a', w', hq, .of_steps (.one step_loop) harr⟩

end Go.Sep
