/- The operations that call no Go function, on canonical values and the canonical heap. -/
import Derived.Test.YtkfhblkjllbejaaMem
import Derived.Laws.AppendOwn
namespace Go.Sep
open Go
set_option linter.unusedVariables false

/-! ### What a type is -/

inductive TD where
  | int (k : IntKind) | bool | string
  | slice (e : TypeId) | array (n : Nat) (e : TypeId) | struct (fs : List (Nat × TypeId))
  | map (k e : TypeId) | pointer (e : TypeId) | func | other

def TD.of : TypeDesc → TD
  | .int k => .int k
  | .bool => .bool
  | .string => .string
  | .slice e => .slice e
  | .array n e => .array n e
  | .struct fs => .struct (fs.toList.map fun f => (f.offset, f.type))
  | .map k e => .map k e
  | .pointer e => .pointer e
  | .func _ _ _ => .func
  | _ => .other

def TD.agg : TD → Bool
  | .struct _ | .array _ _ => true
  | _ => false

structure TI where
  desc : TD
  size : Nat
  bytes : Nat
  zero : List Value
  guard : Bool

def ti (P : Program) (t : TypeId) : Option TI :=
  match P.underlying t, P.info? t with
  | some d, some i => match i.zero with
    | some z => some ⟨TD.of d, i.size, i.bytes, z.cells.toList, P.eqGuardType P.depth t⟩
    | none => none
  | _, _ => none

theorem ti_some {P : Program} {t : TypeId} {T : TI} (h : ti P t = some T) : ∃ d i z, P.underlying t = some d ∧ P.info? t = some i ∧ i.zero = some z ∧
    T.desc = TD.of d ∧ T.size = i.size ∧ T.bytes = i.bytes ∧ T.zero = z.cells.toList ∧ T.guard = P.eqGuardType P.depth t := by
  unfold ti at h
  split at h
  · rename_i d i hd hi
    split at h
    · rename_i z hz
      obtain rfl := Option.some.inj h
      exact ⟨d, i, z, hd, hi, hz, rfl, rfl, rfl, rfl, rfl⟩
    · simp at h
  · simp at h

/-! ### Operands -/

def konst0 : Value → Bool
  | .bool _ | .int _ _ | .string _ | .nilFunc | .pointer none | .map none | .nilIface | .slice none 0 0 => true
  | _ => false
def konst : Value → Bool
  | .agg cs => cs.toList.all konst0
  | v => konst0 v

def ev (ts : Temps) : Operand → Option Value
  | .tmp t => get ts t
  | .const v => if konst v then some v else none
  | .func f => some (.func (.func f) #[] #[])
  | .global _ => none

theorem konst0_VC {β : Names} {v : Value} (h : konst0 v = true) : VC β v v := by
  unfold konst0 at h
  split at h <;> simp_all [VC, V0]

theorem konst0_All2 {β : Names} : ∀ {l : List Value}, l.all konst0 = true → All2 (VC β) l l
  | [], _ => trivial
  | v :: l, h => by simp at h; exact ⟨konst0_VC h.1, konst0_All2 (by simpa using h.2)⟩

theorem konst_VA {β : Names} {v : Value} (h : konst v = true) : VA β v v := by
  unfold konst at h
  split at h
  · exact ⟨_, rfl, konst0_All2 h⟩
  · exact VA.of_VC (konst0_VC h)

theorem ev_rel {N : Nat} {β : Names} {s : St} {a : Act} {w : World} (hr : Rel N β s a w) {x : Operand} {v : Value} (h : ev s.ts x = some v) : VT β v (a.eval x) := by
  cases x with
  | tmp t =>
    obtain ⟨u, hu, hv⟩ := hr.tmp t v h
    simpa [Act.eval, hu] using hv
  | const c =>
    simp only [ev] at h
    split at h
    · obtain rfl := Option.some.inj h
      exact VT.of_VA (konst_VA ‹_›)
    · simp at h
  | func f =>
    simp only [ev] at h
    obtain rfl := Option.some.inj h
    exact ⟨rfl, #[], rfl, trivial⟩
  | global g => simp [ev] at h

/-! ### Cells -/

/-- What a variable holds that lies from `off` on. -/
def loadC (T : TI) (cs : List Value) (off : Nat) : Option Value :=
  if T.desc.agg then if off + T.size ≤ cs.length then some (.agg ((cs.drop off).take T.size).toArray) else none
  else cs[off]?

def putC (cs : List Value) (off : Nat) (vs : List Value) : List Value :=
  match vs with
  | [v] => cs.set off v
  | vs => if off = 0 ∧ vs.length = cs.length then vs else cs.take off ++ vs ++ cs.drop (off + vs.length)

theorem putC_eq {cs : List Value} {off : Nat} {vs : List Value} (h : off + vs.length ≤ cs.length) : putC cs off vs = cs.take off ++ vs ++ cs.drop (off + vs.length) := by
  unfold putC
  split
  · rename_i v
    simp at h
    rw [List.set_eq_take_append_cons_drop, if_pos (by omega)]
    simp
  · split
    · rename_i h2
      obtain ⟨rfl, h3⟩ := h2
      simp [h3]
    · rfl

theorem putC_length {cs : List Value} {off : Nat} {vs : List Value} (h : off + vs.length ≤ cs.length) : (putC cs off vs).length = cs.length := by
  rw [putC_eq h]; simp; omega

/-- `n` elements, all zero. -/
def zeros (z : List Value) : Nat → List Value
  | 0 => []
  | n + 1 => z ++ zeros z n

def partC (T : TI) (cs : List Value) (off : Nat) : Option Value :=
  if T.desc.agg then some (.agg ((cs.drop off).take T.size).toArray) else cs[off]?

end Go.Sep
