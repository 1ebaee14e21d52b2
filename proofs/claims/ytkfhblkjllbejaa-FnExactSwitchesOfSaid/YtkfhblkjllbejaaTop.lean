/- A law's arguments: from what a claim hands to the machine to names and lists of numbers; and back from a function's triple to what the claim asks. -/
import Derived.Test.YtkfhblkjllbejaaWalk
import Derived.OpenShut
import Derived.ChangeOld
import Derived.WideShapes
namespace Go.Sep
open Go
set_option linter.unusedVariables false
set_option linter.unusedSimpArgs false

variable {P : Program}

def ints (zs : List Int) : List Value := zs.map (Value.int .i64)
def good (zs : List Int) : Prop := ∀ z ∈ zs, -9223372036854775808 ≤ z ∧ z ≤ 9223372036854775807

theorem wf_i64 {z : Int} (h : (Lit.int .i64 z).wf = true) : -9223372036854775808 ≤ z ∧ z ≤ 9223372036854775807 := by
  simp [Lit.wf, IntKind.min, IntKind.max, IntKind.signed, IntKind.bits] at h
  omega

theorem ints_of : ∀ {cs : List Value} {n : Nat}, cs.length = n → (∀ i, i < n → ∃ z, cs[i]? = some (.int .i64 z) ∧ (Lit.int .i64 z).wf = true) → ∃ zs, zs.length = n ∧ cs = ints zs ∧ good zs
  | [], _, rfl, _ => ⟨[], rfl, rfl, by simp [good]⟩
  | c :: cs, _, rfl, h => by
    obtain ⟨z, hz, hw⟩ := h 0 (by simp)
    simp at hz
    obtain ⟨zs, h1, h2, h3⟩ := ints_of (cs := cs) rfl fun i hi => by
      obtain ⟨z, hz, hw⟩ := h (i + 1) (by simp; omega)
      exact ⟨z, by simpa using hz, hw⟩
    refine ⟨z :: zs, by simp [h1], by simp [ints, hz]; exact h2, ?_⟩
    intro y hy
    rcases List.mem_cons.mp hy with rfl | hy
    · exact wf_i64 hw
    · exact h3 y hy

/-- A type of `k` cells, all of them int's. -/
def FlatT (P : Program) (t : TypeId) (k : Nat) : Prop :=
  P.cellsOf t = k ∧ ∀ (H : Type) (enc : TypeId × Value → H) (w : World) (base : Nat) (spare : Nat → Bool) (held : Bool) (fuel : Nat) (cs : List Value) (x : DataW H × List MemPlace),
    DataW.trod enc P w base spare held fuel t cs = some x → ∃ zs, zs.length = k ∧ cs = ints zs ∧ good zs

theorem FlatT.int {t : TypeId} (ht : P.underlying t = some (.int .i64)) (hc : P.cellsOf t = 1) : FlatT P t 1 :=
  ⟨hc, fun H enc w base spare held fuel cs x h => by
    obtain ⟨z, rfl, _, hw⟩ := DataW.trod_int ht h
    exact ⟨[z], rfl, rfl, by intro y hy; simp at hy; exact hy ▸ wf_i64 hw⟩⟩

theorem FlatT.array {t e : TypeId} {n : Nat} (ht : P.underlying t = some (.array n e)) (he : P.underlying e = some (.int .i64)) (hc : P.cellsOf t = n) (hce : P.cellsOf e = 1) : FlatT P t n :=
  ⟨hc, fun H enc w base spare held fuel cs x h => by
    obtain ⟨xs, m, _, _, hl, hx, hel⟩ := DataW.trod_array ht h
    refine ints_of (hl.trans hc) fun i hi => ?_
    have h1 := hel i hi
    rw [hce, Nat.mul_one, List.getElem?_eq_getElem (by omega)] at h1
    obtain ⟨z, hz, _, hw⟩ := DataW.trod_int he h1
    refine ⟨z, ?_, hw⟩
    have h0 : ((cs.drop i).take 1)[0]? = some (.int .i64 z) := by rw [hz]; rfl
    simpa using h0⟩

theorem list_of {R : Nat → Int → Prop} : ∀ (n : Nat), (∀ i, i < n → ∃ z, R i z) → ∃ zs : List Int, zs.length = n ∧ ∀ i z, zs[i]? = some z → R i z
  | 0, _ => ⟨[], rfl, by simp⟩
  | n + 1, h => by
    obtain ⟨zs, h1, h2⟩ := list_of n fun i hi => h i (by omega)
    obtain ⟨z, hz⟩ := h n (by omega)
    refine ⟨zs ++ [z], by simp [h1], fun i y hy => ?_⟩
    rcases Nat.lt_or_ge i n with g | g
    · rw [List.getElem?_append_left (by omega)] at hy; exact h2 i y hy
    · rw [List.getElem?_append_right (by omega)] at hy
      have : i - zs.length = 0 := by
        rcases Nat.eq_zero_or_pos (i - zs.length) with q | q
        · exact q
        · rw [List.getElem?_eq_none (by simp; omega)] at hy; simp at hy
      rw [this] at hy
      simp at hy
      have : i = n := by omega
      subst this; exact hy ▸ hz

/-- A slice of a claim's argument: its numbers, `k` of them an element. -/
def SlIn (w : World) (k : Nat) (v : Value) (zs : List Int) : Prop :=
  (zs = [] ∧ ∃ A c, v = .slice A 0 c) ∨
  ∃ a len cap, v = .slice (some a) len cap ∧ (0 < len ∧ len ≤ 9223372036854775807) ∧ len ≤ cap ∧ zs.length = len * k ∧ a.spot = none ∧ (∀ i z, zs[i]? = some z → w.cell? ⟨a.block, a.off + i, none⟩ = some (.int .i64 z)) ∧
    (∀ i, i < cap * k → (w.cell? ⟨a.block, a.off + i, none⟩).isSome = true)

theorem cells_get {w : World} {a : Addr} {n : Nat} {cs : List Value} (h : w.cells? 0 a n = some cs) : cs.length = n ∧ ∀ i, i < n → w.cell? (a.add i) = cs[i]? := by
  unfold World.cells? at h
  rw [if_pos (Nat.zero_le _)] at h
  exact ⟨by simpa using mapM_some_length h, fun i hi => mapM_some_get h i i (by simp [hi])⟩

theorem add_eq {w : World} {a : Addr} {n : Nat} {v : Value} (h : w.cell? (a.add n) = some v) : w.cell? ⟨a.block, a.off + n, none⟩ = some v := by
  unfold Addr.add at h
  split at h
  · subst_vars
    unfold World.cell? at h ⊢
    split at h
    · rename_i hh
      split at h
      · simp at h
      · simp [hh]; exact h
    · simp at h
  · exact h

theorem open_flat {H : Type} {enc : TypeId × Value → H} {w : World} {held : Bool} {fuel k : Nat} {t e : TypeId} {cs : List Value} {x : DataW H × List MemPlace} (hk : 0 < k)
    (ht : P.underlying t = some (.slice e)) (he : FlatT P e k) (h : DataW.trod enc P w 0 (fun _ => true) held fuel t cs = some x) : ∃ v zs, cs = [v] ∧ SlIn w k v zs ∧ good zs := by
  rcases DataW.trod_slice ht h with ⟨rfl, _⟩ | ⟨a, len, cap, elems, rest, n, _, rfl, _, _, hl, hmax, hlen, hel, hsp, _⟩
  · exact ⟨_, [], rfl, .inl ⟨rfl, _, _, rfl⟩, by simp [good]⟩
  obtain ⟨hrl, hr⟩ := hsp rfl
  have one : ∀ i, i < cap → ∃ cs, w.cells? 0 (a.add (i * k)) k = some cs ∧ ∃ zs, zs.length = k ∧ cs = ints zs ∧ good zs := by
    intro i hi
    have h2 : ∃ y, (w.cells? 0 (a.add (i * P.cellsOf e)) (P.cellsOf e)).bind (DataW.trod enc P w 0 (fun _ => true) held n e) = some y := by
      by_cases g : i < len
      · exact ⟨_, (hel i g).trans (List.getElem?_eq_getElem (by omega))⟩
      · have := hr (i - len) (by omega)
        rw [show len + (i - len) = i by omega] at this
        exact ⟨_, this.trans (List.getElem?_eq_getElem (by omega))⟩
    obtain ⟨y, hy⟩ := h2
    rw [Option.bind_eq_some_iff] at hy
    obtain ⟨cs, hc, hd⟩ := hy
    rw [he.1] at hc
    exact ⟨cs, hc, he.2 _ _ _ _ _ _ _ _ _ hd⟩
  have cell : ∀ q, q < cap * k → ∃ z, w.cell? ⟨a.block, a.off + q, none⟩ = some (.int .i64 z) ∧ (-9223372036854775808 ≤ z ∧ z ≤ 9223372036854775807) := by
    intro q hq
    obtain ⟨cs, hc, zs, hz, rfl, hg⟩ := one (q / k) (Nat.div_lt_of_lt_mul (by rwa [Nat.mul_comm]))
    obtain ⟨_, h2⟩ := cells_get hc
    have hm := Nat.mod_lt q hk
    have h3 := h2 (q % k) hm
    obtain ⟨z, hz0⟩ : ∃ z, zs[q % k]? = some z := ⟨_, List.getElem?_eq_getElem (show q % k < zs.length by omega)⟩
    have hz' : (ints zs)[q % k]? = some (.int .i64 z) := by simp [ints, hz0]
    rw [hz'] at h3
    refine ⟨z, ?_, hg _ (List.mem_of_getElem? hz0)⟩
    have h4 : w.cell? ((⟨a.block, a.off + q / k * k, none⟩ : Addr).add (q % k)) = some (.int .i64 z) := by
      unfold Addr.add at h3
      by_cases g0 : q / k * k = 0
      · rw [if_pos g0] at h3
        have := add_eq (a := a) (n := q % k) h3
        rw [g0]
        unfold Addr.add
        split
        · rename_i e1; rw [e1] at this; exact this
        · exact this
      · rw [if_neg g0] at h3; exact h3
    have h5 := add_eq h4
    rw [show a.off + q = a.off + q / k * k + q % k by have := Nat.div_add_mod q k; rw [Nat.mul_comm] at this; omega]
    exact h5
  rcases Nat.eq_zero_or_pos len with rfl | hpos
  · exact ⟨_, [], rfl, .inl ⟨rfl, _, _, rfl⟩, by simp [good]⟩
  have hle : len * k ≤ cap * k := Nat.mul_le_mul_right _ hl
  obtain ⟨zs, hz, hzs⟩ := list_of (R := fun q z => w.cell? ⟨a.block, a.off + q, none⟩ = some (.int .i64 z) ∧ (-9223372036854775808 ≤ z ∧ z ≤ 9223372036854775807)) (len * k) fun q hq => cell q (by omega)
  refine ⟨_, zs, rfl, .inr ⟨a, len, cap, rfl, ⟨hpos, by unfold maxLen at hmax; omega⟩, hl, hz, ?_, fun i z hi => (hzs i z hi).1, fun i hi => by obtain ⟨z, h1, _⟩ := cell i hi; rw [h1]; rfl⟩, fun z hz => ?_⟩
  · obtain ⟨cs, hc, zs', hz', rfl, _⟩ := one 0 (by omega)
    have h2 := (cells_get hc).2 0 hk
    rw [Nat.zero_mul] at h2
    have h3 : (a.add 0).add 0 = a := rfl
    rw [h3] at h2
    obtain ⟨z0, hz0⟩ : ∃ z, zs'[0]? = some z := ⟨_, List.getElem?_eq_getElem (show 0 < zs'.length by omega)⟩
    have h4 : (ints zs')[0]? = some (.int .i64 z0) := by simp [ints, hz0]
    rw [h4] at h2
    unfold World.cell? at h2
    split at h2
    · split at h2
      · simp at h2
      · rename_i hh; cases hs : a.spot <;> simp_all
    · simp at h2
  · obtain ⟨i, hi, rfl⟩ := List.getElem_of_mem hz
    exact (hzs i _ (List.getElem?_eq_getElem hi)).2

theorem All2.self_ints (β : Names) (zs : List Int) : All2 (VC β) (ints zs).toArray.toList (ints zs).toArray.toList := by
  simp only [ints]
  induction zs with
  | nil => exact trivial
  | cons z zs ih => exact ⟨rfl, ih⟩

theorem VA_ints (β : Names) (zs : List Int) : VA β (.agg (ints zs).toArray) (.agg (ints zs).toArray) := ⟨_, rfl, All2.self_ints β zs⟩
theorem VA_heap {β : Names} {X Y Z : Int} {c u : Value} (h : VC β c u) : VA β (.agg #[.int .i64 X, .int .i64 Y, .int .i64 Z, c]) (.agg #[.int .i64 X, .int .i64 Y, .int .i64 Z, u]) :=
  ⟨#[.int .i64 X, .int .i64 Y, .int .i64 Z, u], rfl, rfl, rfl, rfl, h, trivial⟩
theorem VA_shadow {β : Names} {X Y Z : Int} {c u c' u' c'' u'' : Value} (h : VC β c u) (h' : VC β c' u') (h'' : VC β c'' u'') :
    VA β (.agg #[.int .i64 X, .int .i64 Y, .int .i64 Z, c, c', c'']) (.agg #[.int .i64 X, .int .i64 Y, .int .i64 Z, u, u', u'']) :=
  ⟨#[.int .i64 X, .int .i64 Y, .int .i64 Z, u, u', u''], rfl, rfl, rfl, rfl, h, h', h'', trivial⟩

theorem VC_VA {β : Names} {c v : Value} (h : VC β c v) : VA β c v := VA.of_VC h

/-! ### Names for the arguments -/

structure Args (W : World) (β : Names) (H : Heap) (n : Nat) : Prop where
  sat : Sat β H W
  fresh : ∀ x, n ≤ x → β x = none
  ro : ∀ x b, H x = some b → b.rw = false

theorem Args.start (W : World) : Args W (fun _ => none) (fun _ => none) 0 :=
  ⟨⟨fun _ _ h => by simp at h, fun _ _ _ _ _ _ _ h => by simp at h⟩, fun _ _ => rfl, fun _ _ h => by simp at h⟩

/-- A slice that a law was handed: its numbers. -/
def RowV (H : Heap) (n k : Nat) (s : Value) (zs : List Int) : Prop :=
  (zs = [] ∧ s = .slice none 0 2) ∨ ∃ b len, b < n ∧ s = .slice (some ⟨b, 0, none⟩) len k ∧ (0 < len ∧ len ≤ 9223372036854775807) ∧ zs.length = len * k ∧ H b = some (.cells true (ints zs))

theorem RowV.mono {H H' : Heap} {n n' k : Nat} {s : Value} {zs : List Int} (h : RowV H n k s zs) (hl : H.le H') (hn : n ≤ n') : RowV H' n' k s zs := by
  rcases h with h | ⟨b, len, h1, h2, h3, h4, h5⟩
  · exact .inl h
  · exact .inr ⟨b, len, by omega, h2, h3, h4, hl _ _ h5⟩

theorem Args.row {W : World} {β : Names} {H : Heap} {n k : Nat} {v : Value} {zs : List Int} (ha : Args W β H n) (hs : SlIn W k v zs) (hk : 0 < k) :
    ∃ β' H' n' cv, Args W β' H' n' ∧ β.le β' ∧ H.le H' ∧ n ≤ n' ∧ VC β' cv v ∧ RowV H' n' k cv zs := by
  rcases hs with ⟨rfl, A, c, rfl⟩ | ⟨a, len, cap, rfl, h0, h1, h2, h3, h4, h5⟩
  · exact ⟨β, H, n, .slice none 0 2, ha, fun _ _ h => h, Heap.le.refl _, Nat.le_refl _, ⟨rfl, .inr (.inr ⟨rfl, A, c, rfl⟩)⟩, .inl ⟨rfl, rfl⟩⟩
  have hcap : 0 < cap * k := Nat.mul_pos (by omega) hk
  obtain ⟨cs, el, fz, hb⟩ : ∃ c el fz, W.heap[a.block]? = some (.cells c el fz) := by
    have := h5 0 hcap
    unfold World.cell? at this
    split at this
    · exact ⟨_, _, _, by assumption⟩
    · simp at this
  have hroom : a.off + cap * k ≤ cs.size := by
    have := h5 (cap * k - 1) (by omega)
    simp only [World.cell?, hb] at this
    simp at this
    omega
  have hle : β.le (β.set n ⟨a.block, a.off, cs.size⟩) := fun x l hx => by
    unfold Names.set
    rw [if_neg (fun e => by rw [e, ha.fresh n (Nat.le_refl _)] at hx; simp at hx)]
    exact hx
  have hH : ∀ x, n ≤ x → H x = none := fun x hx => by
    cases hh : H x with
    | none => rfl
    | some b =>
      obtain ⟨l, hl, _⟩ := ha.sat.ok x b hh
      rw [ha.fresh x hx] at hl; simp at hl
  have hlk : len * k ≤ cap * k := Nat.mul_le_mul_right _ h1
  refine ⟨β.set n ⟨a.block, a.off, cs.size⟩, H.set n (.cells true (ints zs)), n + 1, .slice (some ⟨n, 0, none⟩) len k, ⟨⟨?_, ?_⟩, ?_, ?_⟩, hle, ?_, Nat.le_succ _, ?_, ?_⟩
  · intro x b hx
    by_cases e : x = n
    · subst e
      rw [Heap.set_same] at hx
      obtain rfl := Option.some.inj hx
      refine ⟨⟨a.block, a.off, cs.size⟩, by simp [Names.set], cs, el, fz, hb, rfl, by simp [ints]; omega, fun i v hv => ?_, by simp⟩
      have hi : i < zs.length := by
        have := (List.getElem?_eq_some_iff.mp hv).1
        simpa [ints] using this
      have hv' : (ints zs)[i]? = some (.int .i64 zs[i]) := by simp [ints]
      rw [hv'] at hv
      obtain rfl := Option.some.inj hv
      have := h4 i _ (List.getElem?_eq_getElem hi)
      simp only [World.cell?, hb] at this
      exact ⟨_, by simpa using this, rfl⟩
    · rw [Heap.set_ne _ _ e] at hx
      obtain ⟨l, hl, hbk⟩ := ha.sat.ok x b hx
      exact ⟨l, hle _ _ hl, hbk.names hle⟩
  · intro x y b c l m hxy hx hy hrw
    exfalso
    by_cases e : x = n
    · subst e
      rw [Heap.set_same] at hx
      obtain rfl := Option.some.inj hx
      simp [Blk.rw] at hrw
    · rw [Heap.set_ne _ _ e] at hx
      rw [ha.ro x b hx] at hrw; simp at hrw
  · intro x hx
    simp only [Names.set]
    rw [if_neg (by omega)]
    exact ha.fresh x (by omega)
  · intro x b hx
    by_cases e : x = n
    · subst e
      rw [Heap.set_same] at hx
      obtain rfl := Option.some.inj hx
      rfl
    · rw [Heap.set_ne _ _ e] at hx
      exact ha.ro x b hx
  · intro x b hx
    rw [Heap.set_ne]
    · exact hx
    · intro e; rw [e, hH n (Nat.le_refl _)] at hx; simp at hx
  · refine ⟨⟨a.block, a.off, cs.size⟩, cap, by simp [Names.set], rfl, h1, by simpa using hroom, ?_⟩
    cases a; simp at h3; simp [h3]
  · exact .inr ⟨n, len, by omega, rfl, h0, h2, by simp [Heap.set]⟩

/-- What a law's triple says of the machine. -/
theorem Fn.top {f : FuncId} {args : List Value} {cargs : List Value} {H H' : Heap} {n n' : Nat} {W : World} {β : Names} (h : Fn P f args H n (.bool true) H' n') (ha : Args W β H n)
    (hv : All2 (VA β) args cargs) : Calls P f cargs.toArray W fun e w' => e = .returned (.bool true) ∧ Go.RowKit.Below W.heap.size W w' := by
  refine (h.2.2 β cargs.toArray W hv ha.sat ha.fresh).mono fun e w' hh => ?_
  obtain ⟨u, β', he, hu, _, _, hg⟩ := hh
  obtain rfl : u = .bool true := hu.symm
  refine ⟨he, hg.os, hg.tape, hg.output, hg.size, fun k hk => hg.keep k hk fun ho => ?_⟩
  obtain ⟨x, b, l, hx, hrw, _⟩ := ho
  rw [ha.ro x b hx] at hrw
  simp at hrw

/-! ### The arguments' types -/

section
variable {H : Type} {enc : TypeId × Value → H} {w : World} {held : Bool} {t : TypeId} {r : Reach} {base : Nat} {v : Value} {d : DataW H} {ps : List MemPlace}

theorem okWide_array {n : Nat} {e : TypeId} (ht : P.underlying t = some (.array n e)) (h : Value.okWide P w r base t v) : ∃ cs, v = .agg cs ∧ cs.size = P.cellsOf t := by
  simp only [Value.okWide, ht] at h
  obtain ⟨cs, h1, h2, _⟩ := h
  exact ⟨cs, h1, h2⟩

theorem open_ints_slice {e : TypeId} {k : Nat} (hk : 0 < k) (ht : P.underlying t = some (.slice e)) (he : FlatT P e k) (hval : Value.okWide P w r base t v)
    (hd : DataW.Trod enc P w 0 (fun _ => true) held t v d ps) : ∃ zs, SlIn w k v zs ∧ good zs := by
  obtain ⟨a, len, cap, rfl⟩ := Go.WideShapes.okWide_slice ht hval
  obtain ⟨fuel, hf⟩ := hd
  obtain ⟨v, zs, h1, h2, h3⟩ := open_flat hk ht he hf
  simp [Value.cells] at h1
  subst h1
  exact ⟨zs, h2, h3⟩

theorem open_array {e : TypeId} {k : Nat} (ht : P.underlying t = some (.array k e)) (he : FlatT P t k) (hval : Value.okWide P w r base t v)
    (hd : DataW.Trod enc P w 0 (fun _ => true) held t v d ps) : ∃ zs, zs.length = k ∧ v = .agg (ints zs).toArray ∧ good zs := by
  obtain ⟨cs, rfl, _⟩ := okWide_array ht hval
  obtain ⟨fuel, hf⟩ := hd
  obtain ⟨zs, h1, h2, h3⟩ := he.2 _ _ _ _ _ _ _ _ _ hf
  simp only [Value.cells] at h2
  exact ⟨zs, h1, by rw [← h2], h3⟩

theorem ints_get {zs : List Int} {i : Nat} {z : Int} (h : zs[i]? = some z) : (ints zs)[i]? = some (.int .i64 z) := by simp [ints, h]

/-- A field of a struct: an int. -/
theorem field_int {cs : List Value} {fuel o : Nat} {f : TypeId} {x : Option (DataW H × List MemPlace)} (hf : P.underlying f = some (.int .i64)) (hc : P.cellsOf f = 1)
    (h : DataW.trod enc P w 0 (fun _ => true) held fuel f ((cs.drop o).take (P.cellsOf f)) = x) (hx : x.isSome = true) : ∃ z, cs[o]? = some (.int .i64 z) ∧ (-9223372036854775808 ≤ z ∧ z ≤ 9223372036854775807) := by
  obtain ⟨y, rfl⟩ := Option.isSome_iff_exists.mp hx
  rw [hc] at h
  obtain ⟨z, h1, _, h3⟩ := DataW.trod_int hf h
  refine ⟨z, ?_, wf_i64 h3⟩
  have h0 : ((cs.drop o).take 1)[0]? = some (.int .i64 z) := by rw [h1]; rfl
  simpa using h0

/-- A field of a struct: a slice of int's. -/
theorem field_slice {cs : List Value} {fuel o k : Nat} {f e : TypeId} {x : Option (DataW H × List MemPlace)} (hk : 0 < k) (hf : P.underlying f = some (.slice e)) (he : FlatT P e k) (hc : P.cellsOf f = 1)
    (h : DataW.trod enc P w 0 (fun _ => true) held fuel f ((cs.drop o).take (P.cellsOf f)) = x) (hx : x.isSome = true) : ∃ v zs, cs[o]? = some v ∧ SlIn w k v zs ∧ good zs := by
  obtain ⟨y, rfl⟩ := Option.isSome_iff_exists.mp hx
  rw [hc] at h
  obtain ⟨v, zs, h1, h2, h3⟩ := open_flat hk hf he h
  refine ⟨v, zs, ?_, h2, h3⟩
  have h0 : ((cs.drop o).take 1)[0]? = some v := by rw [h1]; rfl
  simpa using h0

theorem open_heap {i s e : TypeId} {f0 f1 f2 f3 : Field} (ht : P.underlying t = some (.struct #[f0, f1, f2, f3])) (h0 : f0.type = i ∧ f0.offset = 0) (h1 : f1.type = i ∧ f1.offset = 1)
    (h2 : f2.type = i ∧ f2.offset = 2) (h3 : f3.type = s ∧ f3.offset = 3) (hc : P.cellsOf t = 4) (hi : P.underlying i = some (.int .i64)) (hci : P.cellsOf i = 1) (hs : P.underlying s = some (.slice e)) (hcs : P.cellsOf s = 1)
    (he : FlatT P e 3) (hval : Value.okWide P w r base t v) (hd : DataW.Trod enc P w 0 (fun _ => true) held t v d ps) :
    ∃ X Y Z u zs, v = .agg #[.int .i64 X, .int .i64 Y, .int .i64 Z, u] ∧ SlIn w 3 u zs ∧ good [X, Y, Z] ∧ good zs := by
  obtain ⟨cs, rfl, _⟩ := Go.WideShapes.okWide_struct ht hval
  obtain ⟨fuel, hf⟩ := hd
  obtain ⟨xs, n, _, _, hl, hx, hel⟩ := DataW.trod_struct ht hf
  simp only [Value.cells] at hl hel
  rw [hc] at hl
  have sm : ∀ i, i < 4 → (xs[i]?).isSome = true := fun i hi => by rw [List.getElem?_eq_getElem (by rw [hx]; exact hi)]; rfl
  have e0 := hel 0 f0 rfl
  have e1 := hel 1 f1 rfl
  have e2 := hel 2 f2 rfl
  have e3 := hel 3 f3 rfl
  rw [h0.1, h0.2] at e0
  rw [h1.1, h1.2] at e1
  rw [h2.1, h2.2] at e2
  rw [h3.1, h3.2] at e3
  obtain ⟨X, hX, gX⟩ := field_int hi hci e0 (sm 0 (by omega))
  obtain ⟨Y, hY, gY⟩ := field_int hi hci e1 (sm 1 (by omega))
  obtain ⟨Z, hZ, gZ⟩ := field_int hi hci e2 (sm 2 (by omega))
  obtain ⟨u, zs, hu, g1, g2⟩ := field_slice (by omega) hs he hcs e3 (sm 3 (by omega))
  refine ⟨X, Y, Z, u, zs, ?_, g1, ?_, g2⟩
  · congr 1
    refine Array.toList_inj.mp ?_
    refine List.ext_getElem? fun j => ?_
    rcases j with _ | _ | _ | _ | j
    · exact hX
    · exact hY
    · exact hZ
    · exact hu
    · rw [List.getElem?_eq_none (by rw [hl]; omega), List.getElem?_eq_none (by simp)]
  · intro z hz
    simp at hz
    rcases hz with rfl | rfl | rfl <;> assumption

theorem open_shadow {i s e : TypeId} {f0 f1 f2 f3 f4 f5 : Field} (ht : P.underlying t = some (.struct #[f0, f1, f2, f3, f4, f5])) (h0 : f0.type = i ∧ f0.offset = 0) (h1 : f1.type = i ∧ f1.offset = 1)
    (h2 : f2.type = i ∧ f2.offset = 2) (h3 : f3.type = s ∧ f3.offset = 3) (h4 : f4.type = s ∧ f4.offset = 4) (h5 : f5.type = s ∧ f5.offset = 5) (hc : P.cellsOf t = 6) (hi : P.underlying i = some (.int .i64)) (hci : P.cellsOf i = 1)
    (hs : P.underlying s = some (.slice e)) (hcs : P.cellsOf s = 1) (he : FlatT P e 1) (hval : Value.okWide P w r base t v) (hd : DataW.Trod enc P w 0 (fun _ => true) held t v d ps) :
    ∃ X Y Z u us v' vs w' ws, v = .agg #[.int .i64 X, .int .i64 Y, .int .i64 Z, u, v', w'] ∧ SlIn w 1 u us ∧ SlIn w 1 v' vs ∧ SlIn w 1 w' ws ∧ good [X, Y, Z] ∧ good us ∧ good vs ∧ good ws := by
  obtain ⟨cs, rfl, _⟩ := Go.WideShapes.okWide_struct ht hval
  obtain ⟨fuel, hf⟩ := hd
  obtain ⟨xs, n, _, _, hl, hx, hel⟩ := DataW.trod_struct ht hf
  simp only [Value.cells] at hl hel
  rw [hc] at hl
  have sm : ∀ i, i < 6 → (xs[i]?).isSome = true := fun i hi => by rw [List.getElem?_eq_getElem (by rw [hx]; exact hi)]; rfl
  have e0 := hel 0 f0 rfl
  have e1 := hel 1 f1 rfl
  have e2 := hel 2 f2 rfl
  have e3 := hel 3 f3 rfl
  have e4 := hel 4 f4 rfl
  have e5 := hel 5 f5 rfl
  rw [h0.1, h0.2] at e0
  rw [h1.1, h1.2] at e1
  rw [h2.1, h2.2] at e2
  rw [h3.1, h3.2] at e3
  rw [h4.1, h4.2] at e4
  rw [h5.1, h5.2] at e5
  obtain ⟨X, hX, gX⟩ := field_int hi hci e0 (sm 0 (by omega))
  obtain ⟨Y, hY, gY⟩ := field_int hi hci e1 (sm 1 (by omega))
  obtain ⟨Z, hZ, gZ⟩ := field_int hi hci e2 (sm 2 (by omega))
  obtain ⟨u, us, hu, g1, g2⟩ := field_slice (by omega) hs he hcs e3 (sm 3 (by omega))
  obtain ⟨v', vs, hv, g3, g4⟩ := field_slice (by omega) hs he hcs e4 (sm 4 (by omega))
  obtain ⟨w', ws, hw, g5, g6⟩ := field_slice (by omega) hs he hcs e5 (sm 5 (by omega))
  refine ⟨X, Y, Z, u, us, v', vs, w', ws, ?_, g1, g3, g5, ?_, g2, g4, g6⟩
  · congr 1
    refine Array.toList_inj.mp ?_
    refine List.ext_getElem? fun j => ?_
    rcases j with _ | _ | _ | _ | _ | _ | j
    · exact hX
    · exact hY
    · exact hZ
    · exact hu
    · exact hv
    · exact hw
    · rw [List.getElem?_eq_none (by rw [hl]; omega), List.getElem?_eq_none (by simp)]
  · intro z hz
    simp at hz
    rcases hz with rfl | rfl | rfl <;> assumption
end

end Go.Sep
