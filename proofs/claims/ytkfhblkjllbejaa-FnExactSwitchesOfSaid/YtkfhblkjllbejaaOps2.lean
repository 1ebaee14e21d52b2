/- Each operation that calls no Go function: what it does in the machine is what it does on the canonical heap: memory. -/
import Derived.Test.YtkfhblkjllbejaaOps
namespace Go.Sep
open Go
set_option linter.unusedVariables false
set_option linter.unusedSimpArgs false

variable {P : Program}

/-- What a run of an operation must come to. -/
def Yield (n : Nat) (β : Names) (H : Heap) (w : World) (r : Result Next) (v : Value) (H' : Heap) (n' : Nat) : Prop :=
  ∃ u w' β', (r = .ok (.value u) w' ∨ (r = .ok .skip w' ∧ u = undef)) ∧ VT β' v u ∧ Sat β' H' w' ∧ n ≤ n' ∧ (∀ x, n' ≤ x → β' x = none) ∧ Grow n β H w β' H' w'

theorem Yield.pure {n : Nat} {β : Names} {H : Heap} {w : World} {v u : Value} (hs : Sat β H w) (hf : ∀ x, n ≤ x → β x = none) (hv : VT β v u) :
    Yield n β H w (.ok (.value u) w) v H n := ⟨u, w, β, .inl rfl, hv, hs, Nat.le_refl _, hf, Grow.refl _ _ hf⟩

theorem run_isAgg {t : TypeId} {d : TypeDesc} (hd : P.underlying t = some d) (w : World) : (isAgg t).run P w = .ok (TD.of d).agg w := by
  unfold isAgg
  rw [Sem.run_bind, run_underlying hd w]
  cases d <;> simp [TD.of, TD.agg]

theorem run_size {t : TypeId} {i : TypeInfo} (hi : P.info? t = some i) (w : World) : (sizeOf t).run P w = .ok i.size w := by
  simp [sizeOf, typeInfo, hi]

theorem run_info {t : TypeId} {i : TypeInfo} (hi : P.info? t = some i) (w : World) : (typeInfo t).run P w = .ok i w := by
  simp [typeInfo, hi]

theorem run_zero {t : TypeId} {i : TypeInfo} {z : Value} (hi : P.info? t = some i) (hz : i.zero = some z) (w : World) : (zeroValue t).run P w = .ok z w := by
  simp [zeroValue, typeInfo, hi, hz]

theorem addr_add (b o j : Nat) : (⟨b, o, none⟩ : Addr).add j = ⟨b, o + j, none⟩ := by unfold Addr.add; split <;> simp_all

/-- A block's cells in the machine. -/
theorem Sat.cells {β : Names} {H : Heap} {w : World} (hs : Sat β H w) {x : Nat} {ro : Bool} {cs : List Value} (hx : H x = some (.cells ro cs)) :
    ∃ l c el fz, β x = some l ∧ w.heap[l.blk]? = some (.cells c el fz) ∧ c.size = l.size ∧ l.base + cs.length ≤ l.size ∧
      (∀ i v, cs[i]? = some v → ∃ u, c[l.base + i]? = some u ∧ VC β v u) ∧ (ro = false → fz = (0, 0)) := by
  obtain ⟨l, hl, c, el, fz, h⟩ := hs.ok x _ hx
  exact ⟨l, c, el, fz, hl, h⟩

/-- A stretch of a block's cells as the machine reads it. -/
theorem read_stretch {β : Names} {w : World} {l : Loc} {c : Array Value} {el : TypeId} {fz : Nat × Nat} {cs : List Value}
    (hc : w.heap[l.blk]? = some (.cells c el fz)) (hv : ∀ i v, cs[i]? = some v → ∃ u, c[l.base + i]? = some u ∧ VC β v u) (off k : Nat) (hk : off + k ≤ cs.length) :
    ∃ us : List Value, us.length = k ∧ All2 (VC β) ((cs.drop off).take k) us ∧ (loadCells ⟨l.blk, l.base + off, none⟩ k).run P w = .ok us.toArray w := by
  refine ⟨((List.range k).map fun j => (c[l.base + off + j]?).getD undef), by simp, ?_, ?_⟩
  · refine All2.of_get (by simp; omega) ?_
    intro i v hi
    rw [List.getElem?_take] at hi
    split at hi
    · rename_i hik
      rw [List.getElem?_drop] at hi
      obtain ⟨u, hu, huv⟩ := hv _ _ hi
      refine ⟨u, ?_, huv⟩
      have e : l.base + (off + i) = l.base + off + i := by omega
      rw [e] at hu
      simp [hik, hu]
    · simp at hi
  · refine run_loadCells (P := P) w _ k (fun j => (c[l.base + off + j]?).getD undef) fun j hj => ?_
    have hlt : off + j < cs.length := by omega
    obtain ⟨u, hu, _⟩ := hv (off + j) cs[off + j] (List.getElem?_eq_getElem hlt)
    have e : l.base + (off + j) = l.base + off + j := by omega
    rw [e] at hu
    rw [addr_add]
    simp only [hu, Option.getD_some]
    simp [World.cell?, hc, hu]

def cLoad (P : Program) (t : TypeId) (H : Heap) : Value → Option Value
  | .pointer (some p) => match ti P t, H p.block with
    | some T, some (.cells _ cs) => loadC T cs p.off
    | _, _ => none
  | _ => none

theorem load_sound {t : TypeId} {n : Nat} {β : Names} {H : Heap} {w : World} (hs : Sat β H w) (hf : ∀ x, n ≤ x → β x = none) {p u v : Value}
    (hp : VT β p u) (h : cLoad P t H p = some v) : ∃ r, (Instr.loadAt t u).run P w = .ok r w ∧ VA β v r := by
  unfold cLoad at h
  split at h
  case h_2 => simp at h
  case h_1 p =>
    split at h
    case h_2 => simp at h
    case h_1 T ro cs hT hH =>
      obtain ⟨d, i, z, hd, hi, hz, e1, e2, e3, e4, _⟩ := ti_some hT
      obtain ⟨l, c, el, fz, hl, hc, hsz, hlen, hv, _⟩ := hs.cells hH
      obtain ⟨l', hl', _, rfl⟩ := hp
      rw [hl] at hl'
      obtain rfl := Option.some.inj hl'
      unfold loadC at h
      by_cases ha : T.desc.agg = true
      · rw [if_pos ha] at h
        split at h
        · rename_i hk
          obtain rfl := Option.some.inj h
          obtain ⟨us, _, hus, hrun⟩ := read_stretch (P := P) (β := β) hc hv p.off T.size hk
          refine ⟨.agg us.toArray, ?_, ⟨us.toArray, rfl, by simpa using hus⟩⟩
          rw [e1] at ha
          rw [e2] at hrun
          simp [Instr.loadAt, Instr.sureAddr, loadVar, run_isAgg hd, ha, run_size hi, hrun]
        · simp at h
      · rw [if_neg ha] at h
        obtain ⟨u, hu, huv⟩ := hv _ _ h
        refine ⟨u, ?_, VA.of_VC huv⟩
        rw [e1] at ha
        have hcell : w.cell? ⟨l.blk, l.base + p.off, none⟩ = some u := by simp [World.cell?, hc, hu]
        simp [Instr.loadAt, Instr.sureAddr, loadVar, run_isAgg hd, ha, hcell]

def cStore (P : Program) (t : TypeId) (H : Heap) : Value → Value → Option Heap
  | .pointer (some p), v => match ti P t, H p.block with
    | some T, some (.cells false cs) => if v.cells.size = T.size ∧ p.off + T.size ≤ cs.length then some (H.set p.block (.cells false (putC cs p.off v.cells.toList))) else none
    | _, _ => none
  | _, _ => none

theorem run_storeVar {t : TypeId} {i : TypeInfo} (hi : P.info? t = some i) {w : World} {g o : Nat} {cur : Array Value} {el : TypeId} (hg : w.heap[g]? = some (.cells cur el (0, 0)))
    {v : Value} (hv : v.cells.size = i.size) (hfit : o + v.cells.size ≤ cur.size) (h1 : ∀ u ∈ v.cells.toList, u.oneCell' = true) :
    (storeVar t ⟨g, o, none⟩ v).run P w = .ok () (w.setRow g (cur.toList.take o ++ v.cells.toList ++ cur.toList.drop (o + v.cells.size)).toArray) := by
  have h := run_storeCells_at P g o el v.cells.toList 0 cur w hg (by simpa using hfit) h1
  simp only [Nat.add_zero, Array.length_toList] at h
  simp [storeVar, run_size hi, hv, h]

/-- What is written into a stretch of a block. -/
theorem splice_get {β : Names} {cs vs us : List Value} {c : List Value} {base off : Nat} (hv : ∀ i v, cs[i]? = some v → ∃ u, c[base + i]? = some u ∧ VC β v u)
    (hu : All2 (VC β) vs us) (hlen : base + cs.length ≤ c.length) (hfit : off + vs.length ≤ cs.length) :
    ∀ i v, (cs.take off ++ vs ++ cs.drop (off + vs.length))[i]? = some v →
      ∃ u, (c.take (base + off) ++ us ++ c.drop (base + off + us.length))[base + i]? = some u ∧ VC β v u := by
  intro i v hi
  have hl := hu.length
  have hc1 : (c.take (base + off)).length = base + off := by simp; omega
  have hcs1 : (cs.take off).length = off := by simp; omega
  by_cases h1 : i < off
  · rw [List.append_assoc, List.getElem?_append_left (by omega), List.getElem?_take, if_pos h1] at hi
    obtain ⟨u, hu1, huv⟩ := hv _ _ hi
    refine ⟨u, ?_, huv⟩
    rw [List.append_assoc, List.getElem?_append_left (by omega), List.getElem?_take, if_pos (by omega)]
    exact hu1
  · by_cases h2 : i < off + vs.length
    · rw [List.append_assoc, List.getElem?_append_right (by omega), List.getElem?_append_left (by omega), hcs1] at hi
      obtain ⟨u, hu1, huv⟩ := hu.get _ _ hi
      refine ⟨u, ?_, huv⟩
      rw [List.append_assoc, List.getElem?_append_right (by omega), List.getElem?_append_left (by omega), hc1]
      rw [show base + i - (base + off) = i - off by omega]
      exact hu1
    · rw [List.getElem?_append_right (by simp; omega), List.getElem?_drop] at hi
      simp only [List.length_append, hcs1] at hi
      rw [show off + vs.length + (i - (off + vs.length)) = i by omega] at hi
      obtain ⟨u, hu1, huv⟩ := hv _ _ hi
      refine ⟨u, ?_, huv⟩
      rw [List.getElem?_append_right (by simp; omega), List.getElem?_drop]
      simp only [List.length_append, hc1]
      rw [show base + off + us.length + (base + i - (base + off + us.length)) = base + i by omega]
      exact hu1

theorem store_sound {t : TypeId} {n : Nat} {β : Names} {H H' : Heap} {w : World} (hs : Sat β H w) (hf : ∀ x, n ≤ x → β x = none) {p u v v' : Value}
    (hp : VT β p u) (hv : VA β v v') (h : cStore P t H p v = some H') : ∃ w', (Instr.storeAt t u v').run P w = .ok () w' ∧ Sat β H' w' ∧ Grow n β H w β H' w' := by
  obtain ⟨p, rfl⟩ : ∃ q, p = .pointer (some q) := by
    cases p with
    | pointer q => cases q with
      | some q => exact ⟨q, rfl⟩
      | none => simp [cStore] at h
    | _ => simp [cStore] at h
  simp only [cStore] at h
  split at h
  case h_2 => simp at h
  case h_1 T cs hT hH =>
    split at h
    case isFalse => simp at h
    case isTrue hk =>
      obtain rfl := Option.some.inj h
      obtain ⟨hk1, hk2⟩ := hk
      obtain ⟨d, i, z, hd, hi, hz, e1, e2, e3, e4, _⟩ := ti_some hT
      obtain ⟨l, c, el, fz, hl, hc, hsz, hlen, hcv, hfz⟩ := hs.cells hH
      have := hfz rfl
      subst this
      obtain ⟨l', hl', _, rfl⟩ := hp
      rw [hl] at hl'
      obtain rfl := Option.some.inj hl'
      have hcells := hv.cells
      have hsize : v'.cells.size = i.size := by have := hcells.length; simp at this; omega
      have hrun := run_storeVar (P := P) hi hc (o := l.base + p.off) hsize (by omega) hcells.oneCell
      refine ⟨_, by simp only [Instr.storeAt, Instr.sureAddr, Sem.run_bind, Sem.run_pure, Result.andThen_ok]; exact hrun, ?_⟩
      have hfit : p.off + v.cells.toList.length ≤ cs.length := by simp; omega
      refine write_block hs hH hl ?_ ?_ ?_ n hf
      · simp; omega
      · rw [putC_length hfit]; exact hlen
      · rw [putC_eq hfit]
        intro i v hi
        have hg := splice_get (β := β) (c := c.toList) (base := l.base) (off := p.off) (fun i v hi => by simpa using hcv i v hi) hcells (by simp; omega) hfit i v hi
        obtain ⟨u, hu, huv⟩ := hg
        simp only [Array.length_toList] at hu
        exact ⟨u, by simpa using hu, huv⟩

/-! ### New variables -/

theorem newRow_sound {n : Nat} {β : Names} {H : Heap} {w : World} (hs : Sat β H w) (hf : ∀ x, n ≤ x → β x = none) {cs : List Value} {c : Array Value} (el : TypeId)
    (hl : cs.length ≤ c.size) (hc : ∀ (i : Nat) (v : Value), cs[i]? = some v → ∃ u, c[i]? = some u ∧ VC β v u) :
    ∃ β', (newRow el c).run P w = .ok ⟨w.heap.size, 0, none⟩ (w.alloc (.cells c el)) ∧ β' n = some ⟨w.heap.size, 0, c.size⟩ ∧ β.le β' ∧
      Sat β' (H.set n (.cells false cs)) (w.alloc (.cells c el)) ∧ (∀ x, n + 1 ≤ x → β' x = none) ∧ Grow n β H w β' (H.set n (.cells false cs)) (w.alloc (.cells c el)) := by
  have hb : BlkOk β (w.alloc (.cells c el)) ⟨w.heap.size, 0, c.size⟩ (.cells false cs) :=
    ⟨c, el, (0, 0), heap_alloc_new, rfl, by simpa using hl, fun i v hi => by simpa using hc i v hi, fun _ => rfl⟩
  obtain ⟨h1, h2, h3⟩ := new_block hs hf hb
  refine ⟨β.set n ⟨w.heap.size, 0, c.size⟩, ?_, Names.set_same _ _ _, Names.le_set (hf n (Nat.le_refl _)), h1, h2, h3⟩
  rfl

/-- A pointer to the new block. -/
theorem newVar_sound {n : Nat} {β : Names} {H : Heap} {w : World} (hs : Sat β H w) (hf : ∀ x, n ≤ x → β x = none) {v u : Value} (t : TypeId) (hv : VA β v u) :
    ∃ β' w' a, (newVar t u).run P w = .ok a w' ∧ VT β' (.pointer (some ⟨n, 0, none⟩)) (.pointer (some a)) ∧ Sat β' (H.set n (.cells false v.cells.toList)) w' ∧
      (∀ x, n + 1 ≤ x → β' x = none) ∧ Grow n β H w β' (H.set n (.cells false v.cells.toList)) w' := by
  have hc := hv.cells
  obtain ⟨β', hrun, hn, hle, h1, h2, h3⟩ := newRow_sound (P := P) hs hf (cs := v.cells.toList) (c := u.cells) t (by have := hc.length; simp at this; simp; omega) (fun i v hi => by
    obtain ⟨u, hu, huv⟩ := hc.get i v hi; exact ⟨u, by simpa using hu, huv⟩)
  exact ⟨β', _, _, hrun, ⟨_, hn, rfl, by simp⟩, h1, h2, h3⟩

end Go.Sep
