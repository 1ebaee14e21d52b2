/- More rules for printed walks. -/
import Derived.Test.YtkfhblkjllbejaaAppn
namespace Go.Sep
open Go
set_option linter.unusedVariables false
set_option linter.unusedSimpArgs false

variable {P : Program} {N : Nat} {ops : Array Oper} {r : List Oper} {K : St → Prop} {ts : Temps} {H : Heap} {n : Nat}
/-- '!=' of two cells. -/
theorem e_neqA3 {t e u : TypeId} {x y : Operand} {a b : C} {by' : Nat} {z : List Value} {by'' : Nat} {z' : List Value} {g' : Bool} (ht : ti P t = some ⟨.array 3 e, 3, by', z, false⟩) (hE : ti P e = some ⟨.int .i64, 1, by'', z', g'⟩)
    (hx : ev ts x = some (.agg #[.int .i64 a.1, .int .i64 a.2.1, .int .i64 a.2.2])) (hy : ev ts y = some (.agg #[.int .i64 b.1, .int .i64 b.2.1, .int .i64 b.2.2])) : E P (.binOp .neq t x y u) ts H n (.bool (!decide (a = b))) H n := by
  refine ⟨?_, rfl⟩
  simp only [cop, ev2, hx, hy, cBin, cEq, ht, hE]
  rw [if_pos ⟨trivial, trivial, rfl, rfl⟩, sameInts_tri]
  rfl
theorem e_neqB_same {x y : Operand} {a : Bool} {t u : TypeId} {sz by' : Nat} {z : List Value} {g : Bool} (ht : ti P t = some ⟨.bool, sz, by', z, g⟩) (hx : ev ts x = some (.bool a)) (hy : ev ts y = some (.bool a)) :
    E P (.binOp .neq t x y u) ts H n (.bool false) H n := by
  have := e_neqB (H := H) (n := n) (u := u) ht hx hy
  simpa using this
theorem e_neqI_same {x y : Operand} {a : Int} {k : IntKind} {t u : TypeId} (hx : ev ts x = some (.int k a)) (hy : ev ts y = some (.int k a)) : E P (.binOp .neq t x y u) ts H n (.bool false) H n := by
  have := e_neq (P := P) (H := H) (n := n) (t := t) (u := u) hx hy
  simpa using this
end Go.Sep
