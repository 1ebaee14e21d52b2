/- One operation after the other: rules for a printed walk. -/
import Derived.Test.YtkfhblkjllbejaaTop
namespace Go.Sep
open Go
set_option linter.unusedVariables false
set_option linter.unusedSimpArgs false

variable {P : Program} {N : Nat} {ops : Array Oper} {r : List Oper} {K : St → Prop} {ts : Temps} {H : Heap} {n : Nat}

/-! ### Values of operations -/

structure E (P : Program) (o : Op) (ts : Temps) (H : Heap) (n : Nat) (v : Value) (H' : Heap) (n' : Nat) : Prop where
  h : cop P o ts H n = some (v, H', n')
  c : calleeOf ts o = none

def inI (z : Int) : Prop := -9223372036854775808 ≤ z ∧ z ≤ 9223372036854775807

theorem wrap_in {z : Int} (h : inI z) : IntKind.i64.wrap z = z := by
  unfold inI at h
  simp only [IntKind.wrap, IntKind.signed, IntKind.bits]
  simp
  split <;> omega

def oneV : Value → Bool
  | .agg _ | .tuple _ => false
  | _ => true

theorem oneV_cells {v : Value} (h : oneV v = true) : v.cells = #[v] ∧ isTuple v = false := by
  cases v <;> simp [oneV] at h <;> exact ⟨rfl, rfl⟩

theorem e_move {x : Operand} {v : Value} (h : ev ts x = some v) : E P (.move x) ts H n v H n := ⟨by simp only [cop, withH, h], rfl⟩
theorem e_assign {x : Operand} {v : Value} (h : ev ts x = some v) : E P (.assign x) ts H n v H n := ⟨by simp only [cop, withH, h], rfl⟩
theorem e_pickT {c a b : Operand} {v : Value} (hc : ev ts c = some (.bool true)) (h : ev ts a = some v) : E P (.pick c a b) ts H n v H n := ⟨by simp only [cop, withH, hc, h], rfl⟩
theorem e_pickF {c a b : Operand} {v : Value} (hc : ev ts c = some (.bool false)) (h : ev ts b = some v) : E P (.pick c a b) ts H n v H n := ⟨by simp only [cop, withH, hc, h], rfl⟩
theorem e_alloc {t : TypeId} {d : TD} {sz by' : Nat} {z : List Value} {g : Bool} (ht : ti P t = some ⟨d, sz, by', z, g⟩) (hz : z.all konst0 = true) :
    E P (.alloc t) ts H n (.pointer (some ⟨n, 0, none⟩)) (H.set n (.cells false z)) (n + 1) := ⟨by simp only [cop, ht, hz, if_true], rfl⟩
theorem e_boxA {t : TypeId} {x : Operand} {l : List Value} (hx : ev ts x = some (.agg (List.toArray l))) :
    E P (.box t x) ts H n (.pointer (some ⟨n, 0, none⟩)) (H.set n (.cells false l)) (n + 1) := ⟨by simp only [cop, hx, isTuple, Value.cells]; rfl, rfl⟩
theorem e_box1 {t : TypeId} {x : Operand} {v : Value} (hx : ev ts x = some v) (hv : oneV v = true) :
    E P (.box t x) ts H n (.pointer (some ⟨n, 0, none⟩)) (H.set n (.cells false [v])) (n + 1) := ⟨by simp only [cop, hx, (oneV_cells hv).1, (oneV_cells hv).2]; rfl, rfl⟩

section load
variable {t : TypeId} {x : Operand} {b o : Nat} {sp : Option Nat} {ro : Bool} {cs l : List Value} {d : TD} {sz by' : Nat} {z : List Value} {g : Bool} {v : Value}
theorem e_loadA (ht : ti P t = some ⟨d, sz, by', z, g⟩) (hd : d.agg = true) (hx : ev ts x = some (.pointer (some ⟨b, o, sp⟩))) (hH : H b = some (.cells ro cs)) (h0 : o = 0) (hl : cs.length = sz) :
    E P (.load t x) ts H n (.agg (List.toArray cs)) H n := by
  subst h0
  refine ⟨?_, rfl⟩
  simp only [cop, ev1, hx, cLoad, ht, hH, loadC, hd, if_true]
  rw [if_pos (by omega), List.drop_zero, List.take_of_length_le (by omega)]
  rfl
theorem e_loadP (ht : ti P t = some ⟨d, sz, by', z, g⟩) (hd : d.agg = true) (hx : ev ts x = some (.pointer (some ⟨b, o, sp⟩))) (hH : H b = some (.cells ro cs)) (hl : o + sz ≤ cs.length ∧ (cs.drop o).take sz = l) :
    E P (.load t x) ts H n (.agg (List.toArray l)) H n := by
  obtain ⟨h1, rfl⟩ := hl
  refine ⟨?_, rfl⟩
  simp only [cop, ev1, hx, cLoad, ht, hH, loadC, hd, if_true]
  rw [if_pos h1]
  rfl
theorem e_load1 (ht : ti P t = some ⟨d, sz, by', z, g⟩) (hd : d.agg = false) (hx : ev ts x = some (.pointer (some ⟨b, o, sp⟩))) (hH : H b = some (.cells ro cs)) (hl : cs[o]? = some v) :
    E P (.load t x) ts H n v H n := by
  refine ⟨?_, rfl⟩
  simp only [cop, ev1, hx, cLoad, ht, hH, loadC, hd, hl]
  rfl
theorem e_store1 {y : Operand} (ht : ti P t = some ⟨d, 1, by', z, g⟩) (hx : ev ts x = some (.pointer (some ⟨b, o, sp⟩))) (hy : ev ts y = some v) (hv : oneV v = true) (hH : H b = some (.cells false cs)) (ho : o < cs.length) :
    E P (.store t x y) ts H n (.tuple #[]) (H.set b (.cells false (cs.set o v))) n := by
  refine ⟨?_, rfl⟩
  have hc := (oneV_cells hv).1
  simp only [cop, hx, hy, (oneV_cells hv).2, cStore, ht, hH]
  rw [if_neg (by simp), if_pos (by rw [hc]; exact ⟨rfl, ho⟩), hc]
  rfl
theorem e_storeA {y : Operand} (ht : ti P t = some ⟨d, sz, by', z, g⟩) (hx : ev ts x = some (.pointer (some ⟨b, o, sp⟩))) (hy : ev ts y = some (.agg (List.toArray l))) (hH : H b = some (.cells false cs)) (h0 : o = 0)
    (hl : l.length = sz) (hc : cs.length = sz) (h1 : sz ≠ 1) : E P (.store t x y) ts H n (.tuple #[]) (H.set b (.cells false l)) n := by
  subst h0
  refine ⟨?_, rfl⟩
  simp only [cop, hx, hy, isTuple, cStore, ht, hH]
  rw [if_neg (by simp), if_pos ⟨by simpa [Value.cells] using hl, by omega⟩]
  have : putC cs 0 (Value.agg (List.toArray l)).cells.toList = l := by
    simp only [Value.cells, putC]
    split
    · subst_vars; simp_all
    · simp [hl, hc]
  rw [this]
theorem e_storeP {y : Operand} (ht : ti P t = some ⟨d, sz, by', z, g⟩) (hx : ev ts x = some (.pointer (some ⟨b, o, sp⟩))) (hy : ev ts y = some (.agg (List.toArray l))) (hH : H b = some (.cells false cs))
    (hl : l.length = sz) (hc : o + sz ≤ cs.length) : E P (.store t x y) ts H n (.tuple #[]) (H.set b (.cells false (cs.take o ++ l ++ cs.drop (o + sz)))) n := by
  refine ⟨?_, rfl⟩
  simp only [cop, hx, hy, isTuple, cStore, ht, hH]
  rw [if_neg (by simp), if_pos ⟨by simpa [Value.cells] using hl, hc⟩]
  have : putC cs o (Value.agg (List.toArray l)).cells.toList = cs.take o ++ l ++ cs.drop (o + sz) := by
    rw [show (Value.agg (List.toArray l)).cells.toList = l from rfl, putC_eq (by omega), hl]
  rw [this]
end load

theorem e_fieldAddr {s ft : TypeId} {x : Operand} {f b o off : Nat} {sp : Option Nat} {fs : List (Nat × TypeId)} {sz by' : Nat} {z : List Value} {g : Bool} {d' : TD} {sz' by'' : Nat} {z' : List Value} {g' : Bool}
    (ht : ti P s = some ⟨.struct fs, sz, by', z, g⟩) (hF : ti P ft = some ⟨d', sz' + 1, by'', z', g'⟩) (hx : ev ts x = some (.pointer (some ⟨b, o, sp⟩))) (hf : fs[f]? = some (off, ft)) :
    E P (.fieldAddr s x f) ts H n (.pointer (some ⟨b, o + off, none⟩)) H n := by
  refine ⟨?_, rfl⟩
  simp only [cop, ev1, hx, cFieldAddr, ht, hf, hF]
  rfl
theorem e_field1 {s ft : TypeId} {x : Operand} {f off : Nat} {fs : List (Nat × TypeId)} {sz by' : Nat} {z : List Value} {g : Bool} {d' : TD} {sz' by'' : Nat} {z' : List Value} {g' : Bool} {l : List Value} {v : Value}
    (ht : ti P s = some ⟨.struct fs, sz, by', z, g⟩) (hF : ti P ft = some ⟨d', sz', by'', z', g'⟩) (hd : d'.agg = false) (hx : ev ts x = some (.agg (List.toArray l))) (hf : fs[f]? = some (off, ft)) (hv : l[off]? = some v) :
    E P (.field s x f) ts H n v H n := by
  refine ⟨?_, rfl⟩
  simp only [cop, ev1, hx, cField, ht, hf, cPart, hF, hd, hv]
  rfl
theorem e_idxS {t e : TypeId} {x i : Operand} {b o m k : Nat} {sp : Option Nat} {q : IntKind} {j : Int} {sz by' : Nat} {z : List Value} {g : Bool} {d' : TD} {sz' by'' : Nat} {z' : List Value} {g' : Bool}
    (ht : ti P t = some ⟨.slice e, sz, by', z, g⟩) (hE : ti P e = some ⟨d', sz', by'', z', g'⟩) (hx : ev ts x = some (.slice (some ⟨b, o, sp⟩) m k)) (hi : ev ts i = some (.int q j)) (hb : 0 ≤ j ∧ j < (m : Int)) :
    E P (.indexAddr t x i) ts H n (.pointer (some ⟨b, o + j.toNat * sz', none⟩)) H n := by
  refine ⟨?_, rfl⟩
  simp only [cop, ev2, hx, hi, cIndexAddr, ht, hE]
  rw [if_pos hb]; rfl
theorem e_idxA {t e : TypeId} {x i : Operand} {b o m : Nat} {sp : Option Nat} {q : IntKind} {j : Int} {sz by' : Nat} {z : List Value} {g : Bool} {d' : TD} {sz' by'' : Nat} {z' : List Value} {g' : Bool}
    (ht : ti P t = some ⟨.array m e, sz, by', z, g⟩) (hE : ti P e = some ⟨d', sz', by'', z', g'⟩) (hx : ev ts x = some (.pointer (some ⟨b, o, sp⟩))) (hi : ev ts i = some (.int q j)) (hb : 0 ≤ j ∧ j < (m : Int)) :
    E P (.indexAddr t x i) ts H n (.pointer (some ⟨b, o + j.toNat * sz', none⟩)) H n := by
  refine ⟨?_, rfl⟩
  simp only [cop, ev2, hx, hi, cIndexAddr, ht, hE]
  rw [if_pos hb]; rfl
theorem e_index1 {t e : TypeId} {x i : Operand} {m : Nat} {l : List Value} {v : Value} {q : IntKind} {j : Int} {sz by' : Nat} {z : List Value} {g : Bool} {d' : TD} {by'' : Nat} {z' : List Value} {g' : Bool}
    (ht : ti P t = some ⟨.array m e, sz, by', z, g⟩) (hE : ti P e = some ⟨d', 1, by'', z', g'⟩) (hd : d'.agg = false) (hx : ev ts x = some (.agg (List.toArray l))) (hi : ev ts i = some (.int q j)) (hb : 0 ≤ j ∧ j < (m : Int))
    (hv : l[j.toNat * 1]? = some v) : E P (.index t x i) ts H n v H n := by
  refine ⟨?_, rfl⟩
  simp only [cop, ev2, hx, hi, cIndex, ht, hE, cPart, hd, hv]
  rw [if_pos hb]; rfl
theorem e_extract {x : Operand} {i : Nat} {l : List Value} {v : Value} (hx : ev ts x = some (.tuple (List.toArray l))) (hv : l[i]? = some v) : E P (.extract x i) ts H n v H n := by
  refine ⟨?_, rfl⟩
  simp only [cop, ev1, hx, cExtract]
  rw [show (List.toArray l)[i]? = some v by simpa using hv]
  rfl
theorem e_len {t e : TypeId} {x : Operand} {p : Option Addr} {m k : Nat} {sz by' : Nat} {z : List Value} {g : Bool} (ht : ti P t = some ⟨.slice e, sz, by', z, g⟩) (hx : ev ts x = some (.slice p m k)) :
    E P (.call { callee := .builtin .len, args := #[x], argTypes := #[t] }) ts H n (.int .i64 m) H n := by
  refine ⟨?_, rfl⟩
  simp only [cop, cBuiltin, ev1, hx, cLen, ht]
  rfl

section bin
variable {x y : Operand} {a b : Int} {t u : TypeId} {k : IntKind}
theorem e_cInt {op : BinOp} {v : Value} (hx : ev ts x = some (.int k a)) (hy : ev ts y = some (.int k b)) (ho : op ≠ .shl ∧ op ≠ .shr) (hv : cInt op k a b = some v) : E P (.binOp op t x y u) ts H n v H n := by
  refine ⟨?_, rfl⟩
  simp only [cop, ev2, hx, hy, cBin]
  cases op <;> simp at ho <;> simp only [if_true, hv] <;> rfl
theorem e_add (hx : ev ts x = some (.int .i64 a)) (hy : ev ts y = some (.int .i64 b)) (h : inI (a + b)) : E P (.binOp .add t x y u) ts H n (.int .i64 (a + b)) H n :=
  e_cInt hx hy (by simp) (by simp only [cInt, wrap_in h])
theorem e_sub (hx : ev ts x = some (.int .i64 a)) (hy : ev ts y = some (.int .i64 b)) (h : inI (a - b)) : E P (.binOp .sub t x y u) ts H n (.int .i64 (a - b)) H n :=
  e_cInt hx hy (by simp) (by simp only [cInt, wrap_in h])
theorem e_mul (hx : ev ts x = some (.int .i64 a)) (hy : ev ts y = some (.int .i64 b)) (h : inI (a * b)) : E P (.binOp .mul t x y u) ts H n (.int .i64 (a * b)) H n :=
  e_cInt hx hy (by simp) (by simp only [cInt, wrap_in h])
theorem e_quo (hx : ev ts x = some (.int .i64 a)) (hy : ev ts y = some (.int .i64 b)) (h0 : b ≠ 0) (h : inI (a.tdiv b)) : E P (.binOp .quo t x y u) ts H n (.int .i64 (a.tdiv b)) H n :=
  e_cInt hx hy (by simp) (by simp only [cInt, wrap_in h, h0, if_false])
theorem e_rem (hx : ev ts x = some (.int .i64 a)) (hy : ev ts y = some (.int .i64 b)) (h0 : b ≠ 0) : E P (.binOp .rem t x y u) ts H n (.int .i64 (a.tmod b)) H n :=
  e_cInt hx hy (by simp) (by simp only [cInt, h0, if_false])
theorem e_lss (hx : ev ts x = some (.int k a)) (hy : ev ts y = some (.int k b)) : E P (.binOp .lss t x y u) ts H n (.bool (decide (a < b))) H n := e_cInt hx hy (by simp) rfl
theorem e_leq (hx : ev ts x = some (.int k a)) (hy : ev ts y = some (.int k b)) : E P (.binOp .leq t x y u) ts H n (.bool (decide (a ≤ b))) H n := e_cInt hx hy (by simp) rfl
theorem e_gtr (hx : ev ts x = some (.int k a)) (hy : ev ts y = some (.int k b)) : E P (.binOp .gtr t x y u) ts H n (.bool (decide (b < a))) H n := e_cInt hx hy (by simp) rfl
theorem e_geq (hx : ev ts x = some (.int k a)) (hy : ev ts y = some (.int k b)) : E P (.binOp .geq t x y u) ts H n (.bool (decide (b ≤ a))) H n := e_cInt hx hy (by simp) rfl
theorem e_eql (hx : ev ts x = some (.int k a)) (hy : ev ts y = some (.int k b)) : E P (.binOp .eql t x y u) ts H n (.bool (decide (a = b))) H n := e_cInt hx hy (by simp) (by simp only [cInt]; rfl)
theorem e_neq (hx : ev ts x = some (.int k a)) (hy : ev ts y = some (.int k b)) : E P (.binOp .neq t x y u) ts H n (.bool (!decide (a = b))) H n := e_cInt hx hy (by simp) (by simp only [cInt]; rfl)
theorem e_not {v : Bool} (hx : ev ts x = some (.bool v)) : E P (.unOp .not t x) ts H n (.bool !v) H n := ⟨by simp only [cop, ev1, hx, cUn]; rfl, rfl⟩
theorem e_neg (hx : ev ts x = some (.int .i64 a)) (h : inI (0 - a)) : E P (.unOp .neg t x) ts H n (.int .i64 (0 - a)) H n := ⟨by simp only [cop, ev1, hx, cUn, wrap_in h]; rfl, rfl⟩
theorem e_max2 {ty : Array TypeId} (hx : ev ts x = some (.int k a)) (hy : ev ts y = some (.int k b)) : E P (.call { callee := .builtin .max, args := #[x, y], argTypes := ty }) ts H n (.int k (max a b)) H n :=
  ⟨by simp only [cop, cBuiltin, evs, hx, hy, cMax, if_true]; rfl, rfl⟩
theorem e_min2 {ty : Array TypeId} (hx : ev ts x = some (.int k a)) (hy : ev ts y = some (.int k b)) : E P (.call { callee := .builtin .min, args := #[x, y], argTypes := ty }) ts H n (.int k (min a b)) H n :=
  ⟨by simp only [cop, cBuiltin, evs, hx, hy, cMin, if_true]; rfl, rfl⟩
end bin

theorem e_make {t e : TypeId} {x y : Operand} {m : Nat} {sz by' : Nat} {z : List Value} {g : Bool} {d' : TD} {sz' by'' : Nat} {z' : List Value} {g' : Bool}
    (ht : ti P t = some ⟨.slice e, sz, by', z, g⟩) (hE : ti P e = some ⟨d', sz', by'', z', g'⟩) (hx : ev ts x = some (.int .i64 (m : Nat))) (hy : ev ts y = some (.int .i64 (m : Nat)))
    (hk : by'' ≤ 2 ^ 16 ∧ z'.length = sz' ∧ z'.all konst0 = true) (hm : m ≤ 2 ^ 30) :
    E P (.makeSlice t x y) ts H n (.slice (some ⟨n, 0, none⟩) m sz') (H.set n (.cells false (zeros z' m))) (n + 1) := by
  refine ⟨?_, rfl⟩
  simp only [cop, hx, hy, cMake, ht, hE]
  rw [if_pos ⟨trivial, by omega, by omega, hk⟩]
  rfl

theorem e_build {t : TypeId} {ps : Array (Nat × Operand)} {vs : List (Nat × Value)} {v : Value} (hp : evParts ts ps.toList = some vs) (ha : (vs.all fun p => !isTuple p.2) = true) (hv : cBuild P t vs = some v) :
    E P (.build t ps) ts H n v H n := ⟨by simp only [cop, hp, ha, if_true, withH, hv], rfl⟩
theorem e_buildSlice {t : TypeId} {len n' : Nat} {ps : Array (Nat × Operand)} {vs : List (Nat × Value)} {v : Value} {H' : Heap} (hp : evParts ts ps.toList = some vs) (ha : (vs.all fun p => !isTuple p.2) = true)
    (hv : cBuildSlice P t len H n vs = some (v, H', n')) : E P (.buildSlice t len ps) ts H n v H' n' := ⟨by simp only [cop, hp, ha, if_true, hv], rfl⟩
theorem e_makeFunc {fn : Go.Fn} {cs : Array Operand} {vs : List Value} (hc : evs ts cs.toList = some vs) (hv : vs.all isV0 = true) : E P (.makeFunc fn #[] cs) ts H n (.func fn #[] (List.toArray vs)) H n :=
  ⟨by simp only [cop, evs, hc, cMakeFunc, hv, and_self, if_true, withH], rfl⟩

/-- append(s, x) to an owned row; `x` is a slice made before. -/
theorem e_append {t t1 e e1 : TypeId} {x y : Operand} {b c m k es es1 : Nat} {sp sp1 : Option Nat} {ro : Bool} {cs xs : List Value} {sz by' : Nat} {z : List Value} {g : Bool} {sz1 by1 : Nat} {z1 : List Value} {g1 : Bool}
    {d' : TD} {by'' : Nat} {z' : List Value} {g' : Bool} (ht : ti P t = some ⟨.slice e, sz, by', z, g⟩) (ht1 : ti P t1 = some ⟨.slice e1, sz1, by1, z1, g1⟩) (hE : ti P e = some ⟨d', es, by'', z', g'⟩)
    (hx : ev ts x = some (.slice (some ⟨b, 0, sp⟩) k es)) (hy : ev ts y = some (.slice (some ⟨c, 0, sp1⟩) (m + 1) es1)) (hH : H b = some (.cells false cs)) (hH1 : H c = some (.cells ro xs))
    (hk : by'' ≤ 2 ^ 16 ∧ z'.length = es ∧ 0 < es) (hl : cs.length = k * es) (hl1 : xs.length = (m + 1) * es) (hkm : k + (m + 1) ≤ 2 ^ 24) :
    E P (.call { callee := .builtin .append, args := #[x, y], argTypes := #[t, t1] }) ts H n (.slice (some ⟨n, 0, none⟩) (k + (m + 1)) es) ((H.del b).set n (.cells false (cs ++ xs))) (n + 1) := by
  refine ⟨?_, rfl⟩
  simp only [cop, cBuiltin, hx, hy]
  simp only [cAppend, List.getElem?_toArray, List.getElem?_cons_zero, List.getElem?_cons_succ, ht, ht1, hE]
  rw [if_pos hk]
  simp only [cTake, hH1]
  rw [if_pos (by omega)]
  simp only [hH]
  rw [if_neg (by omega), if_pos ⟨trivial, trivial, hl, hkm⟩, List.drop_zero, List.take_of_length_le (by omega)]

/-! ### Plain regions -/

theorem st {t : Tmp} {op : Op} {ty : TypeId} {pos : String} {after : Array Edge} {gd : Option (Nat × Bool)} {v : Value} {H' : Heap} {n' : Nat} (hd : okDst N (some t) = true) (hw : wantC ops ⟨some t, op, ty, pos, after, gd⟩ ts = some true)
    (he : E P op ts H n v H' n') (hk : wops P N ops r ⟨(t, v) :: ts, H', n'⟩ K) : wops P N ops (⟨some t, op, ty, pos, after, gd⟩ :: r) ⟨ts, H, n⟩ K := by
  simp only [wops, hd, hw, stepOp, he.c, he.h, putT]
  exact ⟨trivial, hk⟩
theorem stN {op : Op} {ty : TypeId} {pos : String} {after : Array Edge} {gd : Option (Nat × Bool)} {v : Value} {H' : Heap} {n' : Nat} (hw : wantC ops ⟨none, op, ty, pos, after, gd⟩ ts = some true)
    (he : E P op ts H n v H' n') (hk : wops P N ops r ⟨ts, H', n'⟩ K) : wops P N ops (⟨none, op, ty, pos, after, gd⟩ :: r) ⟨ts, H, n⟩ K := by
  simp only [wops, okDst, hw, stepOp, he.c, he.h, putT]
  exact ⟨trivial, hk⟩
theorem stS {t : Tmp} {op : Op} {ty : TypeId} {pos : String} {after : Array Edge} {gd : Option (Nat × Bool)} (hd : okDst N (some t) = true) (hw : wantC ops ⟨some t, op, ty, pos, after, gd⟩ ts = some false)
    (hk : wops P N ops r ⟨(t, .tuple #[]) :: ts, H, n⟩ K) : wops P N ops (⟨some t, op, ty, pos, after, gd⟩ :: r) ⟨ts, H, n⟩ K := by
  simp only [wops, hd, hw, putT]
  exact ⟨trivial, hk⟩
theorem stSN {op : Op} {ty : TypeId} {pos : String} {after : Array Edge} {gd : Option (Nat × Bool)} (hw : wantC ops ⟨none, op, ty, pos, after, gd⟩ ts = some false)
    (hk : wops P N ops r ⟨ts, H, n⟩ K) : wops P N ops (⟨none, op, ty, pos, after, gd⟩ :: r) ⟨ts, H, n⟩ K := by
  simp only [wops, okDst, hw, putT]
  exact ⟨trivial, hk⟩
theorem stC {t : Tmp} {op : Op} {ty : TypeId} {pos : String} {after : Array Edge} {gd : Option (Nat × Bool)} {f : FuncId} {args : List Value} {v : Value} {H' : Heap} {n' : Nat} (hd : okDst N (some t) = true)
    (hw : wantC ops ⟨some t, op, ty, pos, after, gd⟩ ts = some true) (hc : calleeOf ts op = some (f, args)) (hf : Fn P f args H n v H' n') (hk : wops P N ops r ⟨(t, v) :: ts, H', n'⟩ K) :
    wops P N ops (⟨some t, op, ty, pos, after, gd⟩ :: r) ⟨ts, H, n⟩ K := by
  simp only [wops, hd, hw, stepOp, hc, putT]
  exact ⟨trivial, v, H', n', hf, hk⟩
theorem stCN {op : Op} {ty : TypeId} {pos : String} {after : Array Edge} {gd : Option (Nat × Bool)} {f : FuncId} {args : List Value} {v : Value} {H' : Heap} {n' : Nat}
    (hw : wantC ops ⟨none, op, ty, pos, after, gd⟩ ts = some true) (hc : calleeOf ts op = some (f, args)) (hf : Fn P f args H n v H' n') (hk : wops P N ops r ⟨ts, H', n'⟩ K) :
    wops P N ops (⟨none, op, ty, pos, after, gd⟩ :: r) ⟨ts, H, n⟩ K := by
  simp only [wops, okDst, hw, stepOp, hc, putT]
  exact ⟨trivial, v, H', n', hf, hk⟩
theorem stEnd {s : St} (h : K s) : wops P N ops [] s K := h
/-- A bool, told apart before it is asked for. -/
theorem stB {t : Nat} {b : Bool} {l : List Oper} (h1 : b = true → wops P N ops l ⟨(t, .bool true) :: ts, H, n⟩ K) (h2 : b = false → wops P N ops l ⟨(t, .bool false) :: ts, H, n⟩ K) :
    wops P N ops l ⟨(t, .bool b) :: ts, H, n⟩ K := by cases b with | true => exact h1 rfl | false => exact h2 rfl

/-! ### Drawn regions -/

section drawn
variable {t : Tmp} {op : Op} {ty : TypeId} {pos : String} {after : Array Edge} {gd : Option (Nat × Bool)} {v : Value} {H' : Heap} {n' m j : Nat} {ms : List Nat} {acc : List (Nat × Foot)}

theorem dP (hd : okDst N (some t) = true) (hw : wantC ops ⟨some t, op, ty, pos, after, gd⟩ ts = some true) (hf : kindOf op ts = .pure) (he : E P op ts H n v H n) (hk : wopsD P N ops r ms (j + 1) acc ⟨(t, v) :: ts, H, n⟩ K) :
    wopsD P N ops (⟨some t, op, ty, pos, after, gd⟩ :: r) (m :: ms) j acc ⟨ts, H, n⟩ K := by
  simp only [wopsD, hd, hw, hf, he.h, putT]
  exact ⟨trivial, hk⟩
theorem dL {t' : TypeId} {x : Operand} {b o : Nat} {sp : Option Nat} (hd : okDst N (some t) = true) (hw : wantC ops ⟨some t, .load t' x, ty, pos, after, gd⟩ ts = some true) (hx : ev ts x = some (.pointer (some ⟨b, o, sp⟩))) (hb : b < n)
    (ha : accOk m (.load b) acc) (he : E P (.load t' x) ts H n v H n) (hk : wopsD P N ops r ms (j + 1) ((j, .load b) :: acc) ⟨(t, v) :: ts, H, n⟩ K) :
    wopsD P N ops (⟨some t, .load t' x, ty, pos, after, gd⟩ :: r) (m :: ms) j acc ⟨ts, H, n⟩ K := by
  have hf : kindOf (.load t' x) ts = .load b := by simp only [kindOf, hx]
  simp only [wopsD, hd, hw, hf, he.h, putT]
  exact ⟨trivial, ⟨hb, ha⟩, hk⟩
theorem dLs {t' : TypeId} {x : Operand} {lo hi mx : Option Operand} {b o : Nat} {sp : Option Nat} (hd : okDst N (some t) = true) (hw : wantC ops ⟨some t, .slice t' x lo hi mx, ty, pos, after, gd⟩ ts = some true)
    (hx : ev ts x = some (.pointer (some ⟨b, o, sp⟩))) (hb : b < n) (ha : accOk m (.load b) acc) (he : E P (.slice t' x lo hi mx) ts H n v H n) (hk : wopsD P N ops r ms (j + 1) ((j, .load b) :: acc) ⟨(t, v) :: ts, H, n⟩ K) :
    wopsD P N ops (⟨some t, .slice t' x lo hi mx, ty, pos, after, gd⟩ :: r) (m :: ms) j acc ⟨ts, H, n⟩ K := by
  have hf : kindOf (.slice t' x lo hi mx) ts = .load b := by simp only [kindOf, hx]
  simp only [wopsD, hd, hw, hf, he.h, putT]
  exact ⟨trivial, ⟨hb, ha⟩, hk⟩
theorem dN {x : Nat} (hd : okDst N (some t) = true) (hw : wantC ops ⟨some t, op, ty, pos, after, gd⟩ ts = some true) (hf : kindOf op ts = .new x) (he : E P op ts H n v H' (n + 1))
    (hk : wopsD P N ops r ms (j + 1) ((j, .new n) :: acc) ⟨(t, v) :: ts, H', n + 1⟩ K) : wopsD P N ops (⟨some t, op, ty, pos, after, gd⟩ :: r) (m :: ms) j acc ⟨ts, H, n⟩ K := by
  simp only [wopsD, hd, hw, hf, he.h, putT]
  exact ⟨trivial, hk⟩
theorem dS (hd : okDst N (some t) = true) (hw : wantC ops ⟨some t, op, ty, pos, after, gd⟩ ts = some false) (hk : wopsD P N ops r ms (j + 1) acc ⟨(t, .tuple #[]) :: ts, H, n⟩ K) :
    wopsD P N ops (⟨some t, op, ty, pos, after, gd⟩ :: r) (m :: ms) j acc ⟨ts, H, n⟩ K := by
  simp only [wopsD, hd, hw, putT]
  exact ⟨trivial, hk⟩
/-- A call that leaves the heap. -/
theorem dC {f : FuncId} {args : List Value} (hd : okDst N (some t) = true) (hw : wantC ops ⟨some t, op, ty, pos, after, gd⟩ ts = some true) (hkd : kindOf op ts = .eff 0 0 []) (hc : calleeOf ts op = some (f, args))
    (hf : Fn P f args (hide (hidden m acc) n H) n v (hide (hidden m acc) n H) n) (ha : accOk m (.eff n n []) acc) (hk : wopsD P N ops r ms (j + 1) ((j, .eff n n []) :: acc) ⟨(t, v) :: ts, H, n⟩ K) :
    wopsD P N ops (⟨some t, op, ty, pos, after, gd⟩ :: r) (m :: ms) j acc ⟨ts, H, n⟩ K := by
  simp only [wopsD, hd, hw, hkd, putT]
  refine ⟨trivial, [], by simp, ?_⟩
  simp only [stepOp, hc]
  refine ⟨v, _, n, hf, Nat.le_refl _, fun y hy _ hu => by unfold hide; rw [if_pos ⟨hy, hu⟩], ha, ?_⟩
  have : unhide (hidden m acc) n H (hide (hidden m acc) n H) = H := by
    funext y
    unfold unhide hide
    split
    · rfl
    · rfl
  rw [this]; exact hk
/-- A call that makes one block. -/
theorem dC1 {f : FuncId} {args : List Value} {c : Blk} (hd : okDst N (some t) = true) (hw : wantC ops ⟨some t, op, ty, pos, after, gd⟩ ts = some true) (hkd : kindOf op ts = .eff 0 0 []) (hc : calleeOf ts op = some (f, args))
    (hf : Fn P f args (hide (hidden m acc) n H) n v ((hide (hidden m acc) n H).set n c) (n + 1)) (ha : accOk m (.eff n (n + 1) []) acc) (hu : n ∉ hidden m acc)
    (hk : wopsD P N ops r ms (j + 1) ((j, .eff n (n + 1) []) :: acc) ⟨(t, v) :: ts, H.set n c, n + 1⟩ K) : wopsD P N ops (⟨some t, op, ty, pos, after, gd⟩ :: r) (m :: ms) j acc ⟨ts, H, n⟩ K := by
  simp only [wopsD, hd, hw, hkd, putT]
  refine ⟨trivial, [], by simp, ?_⟩
  simp only [stepOp, hc]
  refine ⟨v, _, n + 1, hf, Nat.le_succ _, fun y hy _ hu => by rw [Heap.set_ne _ _ (by omega)]; unfold hide; rw [if_pos ⟨hy, hu⟩], ha, ?_⟩
  have : unhide (hidden m acc) (n + 1) H ((hide (hidden m acc) n H).set n c) = H.set n c := by
    funext y
    unfold unhide
    by_cases e : y = n
    · subst e; rw [if_pos ⟨Nat.lt_succ_self _, hu⟩, Heap.set_same, Heap.set_same]
    · rw [Heap.set_ne _ _ e, Heap.set_ne _ _ e]
      split
      · rename_i hh
        unfold hide
        rw [if_pos ⟨by omega, hh.2⟩]
      · rfl
  rw [this]; exact hk
theorem dEnd {s : St} (h : K s) : wopsD P N ops [] ms j acc s K := by cases ms <;> exact h
theorem dB {t : Nat} {b : Bool} {l : List Oper} (h1 : b = true → wopsD P N ops l ms j acc ⟨(t, .bool true) :: ts, H, n⟩ K) (h2 : b = false → wopsD P N ops l ms j acc ⟨(t, .bool false) :: ts, H, n⟩ K) :
    wopsD P N ops l ms j acc ⟨(t, .bool b) :: ts, H, n⟩ K := by cases b with | true => exact h1 rfl | false => exact h2 rfl
end drawn

/-! ### Regions, with the temporaries that are kept -/

def keepT : List Nat → Temps → Temps
  | [], _ => []
  | t :: D, ts => match get ts t with
    | some v => (t, v) :: keepT D ts
    | none => keepT D ts

theorem get_keepT {t : Nat} {v : Value} {ts : Temps} : ∀ {D : List Nat}, get (keepT D ts) t = some v → get ts t = some v
  | [], h => by simp [keepT, get] at h
  | k :: D, h => by
    simp only [keepT] at h
    split at h
    · rename_i u hu
      simp only [get] at h
      split at h
      · rename_i e; subst e; rw [hu]; exact h
      · exact get_keepT h
    · exact get_keepT h

variable {s : St} {Q : Exit → St → Prop} {d : Code} {id : Nat}

theorem Less.keep (D : List Nat) (ts : Temps) (H : Heap) (n : Nat) : Less ⟨keepT D ts, H, n⟩ ⟨ts, H, n⟩ :=
  { ts := fun t v ht => get_keepT ht, heap := Heap.le.refl _, n := Nat.le_refl _ }

theorem W.sR (D : List Nat) (h : ∀ K : St → Prop, (∀ ts ts' H n, keepT D ts = ts' → W P N d ⟨ts', H, n⟩ Q → K ⟨ts, H, n⟩) → wops P N ops ops.toList s K) : W P N ((Code.region id ops false).seq d) s Q :=
  W.seq (W.region (h _ fun ts ts' H n e hh => W.less (Less.keep D ts H n) (e ▸ hh)))
theorem W.rR (D : List Nat) (h : ∀ K : St → Prop, (∀ ts ts' H n, keepT D ts = ts' → Q .normal ⟨ts', H, n⟩ → K ⟨ts, H, n⟩) → wops P N ops ops.toList s K) : W P N (Code.region id ops false) s Q :=
  W.post (W.region (h _ fun ts ts' H n e hh => ⟨_, e ▸ Less.keep D ts H n, hh⟩))
theorem W.sD (D : List Nat) (ms : List Nat) (hP : P.follows .mixedOrders = true) (hs : staticOk ops ms = true)
    (h : ∀ K : St → Prop, (∀ ts ts' H n, keepT D ts = ts' → W P N d ⟨ts', H, n⟩ Q → K ⟨ts, H, n⟩) → wopsD P N ops ops.toList ms 0 [] s K) : W P N ((Code.region id ops true).seq d) s Q :=
  W.seq (W.regionD ms hP hs (h _ fun ts ts' H n e hh => W.less (Less.keep D ts H n) (e ▸ hh)))
theorem W.rD (D : List Nat) (ms : List Nat) (hP : P.follows .mixedOrders = true) (hs : staticOk ops ms = true)
    (h : ∀ K : St → Prop, (∀ ts ts' H n, keepT D ts = ts' → Q .normal ⟨ts', H, n⟩ → K ⟨ts, H, n⟩) → wopsD P N ops ops.toList ms 0 [] s K) : W P N (Code.region id ops true) s Q :=
  W.post (W.regionD ms hP hs (h _ fun ts ts' H n e hh => ⟨_, e ▸ Less.keep D ts H n, hh⟩))

/-! ### Looking into the heap -/

theorem look_same {H : Heap} {x : Nat} {b : Blk} : (H.set x b) x = some b := Heap.set_same ..
theorem look_ne {H : Heap} {x y : Nat} {b c : Blk} (h : y ≠ x) (hy : H y = some c) : (H.set x b) y = some c := by rw [Heap.set_ne _ _ h]; exact hy
theorem look_del {H : Heap} {x y : Nat} {c : Blk} (h : y ≠ x) (hy : H y = some c) : (H.del x) y = some c := by unfold Heap.del; rw [if_neg h]; exact hy
theorem look_hide {H : Heap} {n y : Nat} {U : List Nat} {c : Blk} (h : y < n) (hu : y ∉ U) (hy : H y = some c) : (hide U n H) y = some c := by unfold hide; rw [if_pos ⟨h, hu⟩]; exact hy

/-- Behind some rounds of a loop the heap tells what it told ahead of it, but for the blocks that the loop writes to. -/
def Keeps (U : List Nat) (m : Nat) (G0 G : Heap) : Prop := ∀ x, x < m → x ∉ U → G x = G0 x
theorem Keeps.refl (U : List Nat) (m : Nat) (G : Heap) : Keeps U m G G := fun _ _ _ => rfl
theorem Keeps.set {U : List Nat} {m x : Nat} {G0 G : Heap} {b : Blk} (h : Keeps U m G0 G) (hx : m ≤ x ∨ x ∈ U) : Keeps U m G0 (G.set x b) := fun y hy hu => by
  rw [Heap.set_ne _ _ (by rcases hx with g | g; omega; exact fun e => hu (e ▸ g))]; exact h y hy hu
theorem Keeps.del {U : List Nat} {m x : Nat} {G0 G : Heap} (h : Keeps U m G0 G) (hx : m ≤ x ∨ x ∈ U) : Keeps U m G0 (G.del x) := fun y hy hu => by
  unfold Heap.del
  rw [if_neg (by rcases hx with g | g; omega; exact fun e => hu (e ▸ g))]; exact h y hy hu
theorem Keeps.trans {U U' : List Nat} {m m' : Nat} {G0 G1 G2 : Heap} (h : Keeps U m G0 G1) (k : Keeps U' m' G1 G2) (hm : m ≤ m') (hU : ∀ x ∈ U', m ≤ x ∨ x ∈ U) : Keeps U m G0 G2 := fun y hy hu => by
  rw [k y (by omega) (fun hh => by rcases hU y hh with g | g; omega; exact hu g)]; exact h y hy hu
theorem look_keep {U : List Nat} {m y : Nat} {G0 G : Heap} {c : Blk} (h : Keeps U m G0 G) (hy : y < m) (hu : y ∉ U) (hc : G0 y = some c) : G y = some c := (h y hy hu).trans hc

/-- What a loop's round must bring about. -/
def roundQ (C : Temps) (G0 : Heap) (m0 : Nat) (U : List Nat) (Inv : Nat → Temps → Heap → Nat → Prop) (k : Nat) (s' : St) : Prop :=
  ∃ V', Less ⟨V' ++ C, s'.H, s'.n⟩ s' ∧ m0 ≤ s'.n ∧ Keeps U m0 G0 s'.H ∧ ∃ k', k' < k ∧ Inv k' V' s'.H s'.n

/-- A loop: the temporaries `V0` change, `C` stay; the heap changes only at the blocks `U` and at new ones. -/
theorem W.loopC {c : Code} {C : Temps} {G0 : Heap} {m0 : Nat} (V0 : Temps) (U : List Nat) (Inv : Nat → Temps → Heap → Nat → Prop) (k0 : Nat) (h0 : Inv k0 V0 G0 m0)
    (round : ∀ k V G m, Inv k V G m → m0 ≤ m → Keeps U m0 G0 G → (∀ x, m ≤ x → G x = none) → W P N c ⟨V ++ C, G, m⟩ (thenS (roundQ C G0 m0 U Inv k) Q)) : W P N (.loop c) ⟨V0 ++ C, G0, m0⟩ Q :=
  W.loop (fun k s => ∃ V, s.ts = V ++ C ∧ m0 ≤ s.n ∧ Keeps U m0 G0 s.H ∧ Inv k V s.H s.n) k0 ⟨V0, rfl, Nat.le_refl _, Keeps.refl _ _ _, h0⟩ fun k s hs => by
    obtain ⟨V, h1, h2, h3, h4⟩ := hs
    obtain ⟨ts, G, m⟩ := s
    simp only at h1 h2 h3 h4
    subst h1
    refine W.fresh fun hf => W.post ((round k V G m h4 h2 h3 hf).mono fun e s' he => ?_)
    cases e with
    | normal =>
      obtain ⟨V', g1, g2, g3, k', g4, g5⟩ := he
      exact ⟨_, g1, k', g4, V', rfl, g2, g3, g5⟩
    | _ => exact ⟨s', Less.refl _, he⟩

theorem inB (z : Int) (h : -9223372036854775808 ≤ z ∧ z ≤ 9223372036854775807) : inI z := h

end Go.Sep
