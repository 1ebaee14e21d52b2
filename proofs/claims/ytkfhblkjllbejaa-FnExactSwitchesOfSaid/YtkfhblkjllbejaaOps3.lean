/- Operations that neither read nor write memory. -/
import Derived.Test.YtkfhblkjllbejaaOps2
import Derived.ChangeKeysEq
namespace Go.Sep
open Go
set_option linter.unusedVariables false
set_option linter.unusedSimpArgs false

variable {P : Program}

/-- A run that leaves the world alone and comes to a value that fits. -/
def Pure (P : Program) (β : Names) (w : World) (r : Sem Value) (v : Value) : Prop := ∃ u, r.run P w = .ok u w ∧ VT β v u

/-! ### Addresses -/

def cFieldAddr (P : Program) (s : TypeId) (f : Nat) : Value → Option Value
  | .pointer (some p) => match ti P s with
    | some T => match T.desc with
      | .struct fs => match fs[f]? with
        | some (off, ft) => match ti P ft with
          | some F => if F.size = 0 then none else some (.pointer (some ⟨p.block, p.off + off, none⟩))
          | none => none
        | none => none
      | _ => none
    | none => none
  | _ => none

theorem TD.of_struct {d : TypeDesc} {fs : List (Nat × TypeId)} (h : TD.of d = .struct fs) : ∃ gs, d = .struct gs ∧ fs = gs.toList.map fun f => (f.offset, f.type) := by
  cases d <;> simp [TD.of] at h
  exact ⟨_, rfl, h.symm⟩
theorem TD.of_array {d : TypeDesc} {n : Nat} {e : TypeId} (h : TD.of d = .array n e) : d = .array n e := by
  cases d <;> simp [TD.of] at h
  obtain ⟨rfl, rfl⟩ := h; rfl
theorem TD.of_slice {d : TypeDesc} {e : TypeId} (h : TD.of d = .slice e) : d = .slice e := by
  cases d <;> simp [TD.of] at h
  subst h; rfl
theorem TD.of_int {d : TypeDesc} {k : IntKind} (h : TD.of d = .int k) : d = .int k := by
  cases d <;> simp [TD.of] at h
  subst h; rfl
theorem TD.of_bool {d : TypeDesc} (h : TD.of d = .bool) : d = .bool := by
  cases d <;> simp [TD.of] at h
  rfl
theorem TD.of_map {d : TypeDesc} {k e : TypeId} (h : TD.of d = .map k e) : d = .map k e := by
  cases d <;> simp [TD.of] at h
  obtain ⟨rfl, rfl⟩ := h; rfl

theorem pointer_inv {β : Names} {p : Addr} {u : Value} (h : VT β (.pointer (some p)) u) : ∃ l, β p.block = some l ∧ u = .pointer (some ⟨l.blk, l.base + p.off, none⟩) := by
  obtain ⟨l, hl, _, rfl⟩ := h; exact ⟨l, hl, rfl⟩

theorem pointer_mk {β : Names} {b o : Nat} {l : Loc} (hl : β b = some l) {k : Nat} (h : k = l.base + o) : VT β (.pointer (some ⟨b, o, none⟩)) (.pointer (some ⟨l.blk, k, none⟩)) := by
  subst h; exact ⟨l, hl, rfl, rfl⟩

theorem fieldAddr_sound {s : TypeId} {f : Nat} {β : Names} {w : World} {p u v : Value} (hp : VT β p u) (h : cFieldAddr P s f p = some v) :
    Pure P β w (Instr.fieldAt s u f) v := by
  obtain ⟨p, rfl⟩ : ∃ q, p = .pointer (some q) := by
    cases p with
    | pointer q => cases q with
      | some q => exact ⟨q, rfl⟩
      | none => simp [cFieldAddr] at h
    | _ => simp [cFieldAddr] at h
  obtain ⟨l, hl, rfl⟩ := pointer_inv hp
  simp only [cFieldAddr] at h
  split at h
  case h_2 => simp at h
  case h_1 T hT =>
    split at h
    case h_2 => simp at h
    case h_1 fs hfs =>
      split at h
      case h_2 => simp at h
      case h_1 off ft hff =>
        split at h
        case h_2 => simp at h
        case h_1 F hF =>
          split at h
          case isTrue => simp at h
          case isFalse hsz =>
            obtain rfl := Option.some.inj h
            obtain ⟨d, i, z, hd, hi, hz, e1, e2, e3, e4, _⟩ := ti_some hT
            obtain ⟨d', i', z', hd', hi', hz', e1', e2', e3', e4', _⟩ := ti_some hF
            obtain ⟨gs, rfl, rfl⟩ := TD.of_struct (e1.symm.trans hfs)
            simp only [List.getElem?_map, Option.map_eq_some_iff] at hff
            obtain ⟨g, hg, hge⟩ := hff
            injection hge with hoff hft
            subst hoff; subst hft
            have hg' : gs[f]? = some g := by simpa using hg
            rw [e2'] at hsz
            refine ⟨.pointer (some ⟨l.blk, l.base + p.off + g.offset, none⟩), ?_, pointer_mk hl (by omega)⟩
            simp [Instr.fieldAt, run_underlying hd, hg', Instr.sureAddr, fieldPlace, run_size hi', hsz, addr_add]

def cPart (P : Program) (t : TypeId) (cs : List Value) (off : Nat) : Option Value :=
  match ti P t with
  | some T => if T.desc.agg then some (.agg ((cs.drop off).take T.size).toArray) else cs[off]?
  | none => none

theorem part_sound {t : TypeId} {β : Names} {w : World} {cs : List Value} {c : Array Value} {off : Nat} {v : Value} (hc : All2 (VC β) cs c.toList)
    (h : cPart P t cs off = some v) : ∃ u, (part t c off).run P w = .ok u w ∧ VA β v u := by
  unfold cPart at h
  split at h
  case h_2 => simp at h
  case h_1 T hT =>
    obtain ⟨d, i, z, hd, hi, hz, e1, e2, e3, e4, _⟩ := ti_some hT
    by_cases ha : T.desc.agg = true
    · rw [if_pos ha] at h
      obtain rfl := Option.some.inj h
      rw [e1] at ha
      refine ⟨.agg (c.extract off (off + i.size)), by simp [part, run_isAgg hd, ha, run_size hi], ?_⟩
      refine ⟨_, rfl, ?_⟩
      have := (hc.drop off).take T.size
      rw [e2] at this
      simpa [Array.toList_extract, List.extract, e2] using this
    · rw [if_neg ha] at h
      rw [e1] at ha
      obtain ⟨u, hu, huv⟩ := hc.get _ _ h
      have hu' : c[off]? = some u := by simpa using hu
      exact ⟨u, by simp [part, run_isAgg hd, ha, hu'], VA.of_VC huv⟩

theorem agg_inv {β : Names} {cs : Array Value} {u : Value} (h : VT β (.agg cs) u) : ∃ c, u = .agg c ∧ All2 (VC β) cs.toList c.toList := h

def cField (P : Program) (t : TypeId) (f : Nat) : Value → Option Value
  | .agg cs => match ti P t with
    | some T => match T.desc with
      | .struct fs => match fs[f]? with
        | some (off, ft) => cPart P ft cs.toList off
        | none => none
      | _ => none
    | none => none
  | _ => none

theorem field_sound {t : TypeId} {f : Nat} {β : Names} {w : World} {x u v : Value} (hx : VT β x u) (h : cField P t f x = some v) : Pure P β w (Instr.field t u f) v := by
  obtain ⟨cs, rfl⟩ : ∃ cs, x = .agg cs := by cases x <;> simp [cField] at h; exact ⟨_, rfl⟩
  obtain ⟨c, rfl, hc⟩ := agg_inv hx
  simp only [cField] at h
  split at h
  case h_2 => simp at h
  case h_1 T hT =>
    split at h
    case h_2 => simp at h
    case h_1 fs hfs =>
      split at h
      case h_2 => simp at h
      case h_1 off ft hff =>
        obtain ⟨d, i, z, hd, hi, hz, e1, e2, e3, e4, _⟩ := ti_some hT
        obtain ⟨gs, rfl, rfl⟩ := TD.of_struct (e1.symm.trans hfs)
        simp only [List.getElem?_map, Option.map_eq_some_iff] at hff
        obtain ⟨g, hg, hge⟩ := hff
        injection hge with hoff hft
        subst hoff; subst hft
        have hg' : gs[f]? = some g := by simpa using hg
        obtain ⟨r, hr, hrv⟩ := part_sound (P := P) (w := w) hc h
        exact ⟨r, by simp [Instr.field, run_underlying hd, hg', asAgg, hr], VT.of_VA hrv⟩

/-! ### Indices -/

def cIndexAddr (P : Program) (t : TypeId) : Value → Value → Option Value
  | x, .int _ i => match ti P t with
    | some T => match T.desc, x with
      | .array n e, .pointer (some p) => match ti P e with
        | some E => if 0 ≤ i ∧ i < (n : Int) then some (.pointer (some ⟨p.block, p.off + i.toNat * E.size, none⟩)) else none
        | none => none
      | .slice e, .slice (some p) n _ => match ti P e with
        | some E => if 0 ≤ i ∧ i < (n : Int) then some (.pointer (some ⟨p.block, p.off + i.toNat * E.size, none⟩)) else none
        | none => none
      | _, _ => none
    | none => none
  | _, _ => none

theorem int_inv {β : Names} {k : IntKind} {i : Int} {u : Value} (h : VT β (.int k i) u) : u = .int k i := h.symm
theorem bool_inv {β : Names} {b : Bool} {u : Value} (h : VT β (.bool b) u) : u = .bool b := h.symm

theorem indexAddr_sound {t : TypeId} {β : Names} {w : World} {x i u j v : Value} (hx : VT β x u) (hi : VT β i j) (h : cIndexAddr P t x i = some v) :
    Pure P β w (Instr.indexAt t u j) v := by
  obtain ⟨k, i, rfl⟩ : ∃ k q, i = .int k q := by cases i <;> simp [cIndexAddr] at h; exact ⟨_, _, rfl⟩
  obtain rfl := int_inv hi
  simp only [cIndexAddr] at h
  split at h
  case h_2 => simp at h
  case h_1 T hT =>
    obtain ⟨d, ii, z, hd, hii, hz, e1, e2, e3, e4, _⟩ := ti_some hT
    split at h
    case h_3 => simp at h
    case h_1 n e p hT1 =>
      split at h
      case h_2 => simp at h
      case h_1 E hE =>
        split at h
        case isFalse => simp at h
        case isTrue hb =>
          obtain rfl := Option.some.inj h
          obtain ⟨d', i', z', hd', hi', hz', e1', e2', e3', e4', _⟩ := ti_some hE
          have := TD.of_array (e1.symm.trans hT1)
          subst this
          obtain ⟨l, hl, rfl⟩ := pointer_inv hx
          refine ⟨.pointer (some ⟨l.blk, l.base + p.off + i.toNat * i'.size, none⟩), ?_, pointer_mk hl (by rw [e2']; omega)⟩
          simp [Instr.indexAt, asIntOf, run_underlying hd, Instr.sureAddr, hb.1, hb.2, run_size hi', addr_add]
    case h_2 e p n m hT1 =>
      split at h
      case h_2 => simp at h
      case h_1 E hE =>
        split at h
        case isFalse => simp at h
        case isTrue hb =>
          obtain rfl := Option.some.inj h
          obtain ⟨d', i', z', hd', hi', hz', e1', e2', e3', e4', _⟩ := ti_some hE
          have := TD.of_slice (e1.symm.trans hT1)
          subst this
          obtain ⟨l, c, hl, _, _, _, rfl⟩ := hx
          refine ⟨.pointer (some ⟨l.blk, l.base + p.off + i.toNat * i'.size, none⟩), ?_, pointer_mk hl (by rw [e2']; omega)⟩
          simp [Instr.indexAt, asIntOf, run_underlying hd, Instr.sureAddr, hb.1, hb.2, run_size hi', addr_add]

def cIndex (P : Program) (t : TypeId) : Value → Value → Option Value
  | .agg cs, .int _ i => match ti P t with
    | some T => match T.desc with
      | .array n e => match ti P e with
        | some E => if 0 ≤ i ∧ i < (n : Int) then cPart P e cs.toList (i.toNat * E.size) else none
        | none => none
      | _ => none
    | none => none
  | _, _ => none

theorem index_sound {t : TypeId} {β : Names} {w : World} {x i u j v : Value} (hx : VT β x u) (hi : VT β i j) (h : cIndex P t x i = some v) :
    Pure P β w (Instr.index t u j) v := by
  obtain ⟨cs, rfl⟩ : ∃ cs, x = .agg cs := by cases x <;> simp [cIndex] at h; exact ⟨_, rfl⟩
  obtain ⟨k, i, rfl⟩ : ∃ k q, i = .int k q := by cases i <;> simp [cIndex] at h; exact ⟨_, _, rfl⟩
  obtain rfl := int_inv hi
  obtain ⟨c, rfl, hc⟩ := agg_inv hx
  simp only [cIndex] at h
  split at h
  case h_2 => simp at h
  case h_1 T hT =>
    obtain ⟨d, ii, z, hd, hii, hz, e1, e2, e3, e4, _⟩ := ti_some hT
    split at h
    case h_2 => simp at h
    case h_1 n e hT1 =>
      split at h
      case h_2 => simp at h
      case h_1 E hE =>
        split at h
        case isFalse => simp at h
        case isTrue hb =>
          obtain ⟨d', i', z', hd', hi', hz', e1', e2', e3', e4', _⟩ := ti_some hE
          have := TD.of_array (e1.symm.trans hT1)
          subst this
          rw [e2'] at h
          obtain ⟨r, hr, hrv⟩ := part_sound (P := P) (w := w) hc h
          exact ⟨r, by simp [Instr.index, asIntOf, run_underlying hd, hb.1, hb.2, run_size hi', hr], VT.of_VA hrv⟩

/-! ### Tuples -/

def cExtract (ix : Nat) : Value → Option Value
  | .tuple vs => vs[ix]?
  | _ => none

theorem extract_sound {ix : Nat} {β : Names} {w : World} {x u v : Value} (hx : VT β x u) (h : cExtract ix x = some v) : Pure P β w (Instr.extract u ix) v := by
  obtain ⟨cs, rfl⟩ : ∃ cs, x = .tuple cs := by cases x <;> simp [cExtract] at h; exact ⟨_, rfl⟩
  obtain ⟨c, rfl, hc⟩ := hx
  simp only [cExtract] at h
  obtain ⟨r, hr, hrv⟩ := hc.get ix v (by simpa using h)
  have hr' : c[ix]? = some r := by simpa using hr
  exact ⟨r, by simp [Instr.extract, hr'], VT.of_VA hrv⟩

end Go.Sep
