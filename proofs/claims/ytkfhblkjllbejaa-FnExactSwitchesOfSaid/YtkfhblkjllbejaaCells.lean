/- Cells of boxes in lists, and small rules for printed walks. -/
import Derived.Test.YtkfhblkjllbejaaStep
namespace Go.Sep
open Go
set_option linter.unusedVariables false
set_option linter.unusedSimpArgs false

/-- A cell of a box. -/
abbrev C := Int × Int × Int
def tri (c : C) : List Value := [.int .i64 c.1, .int .i64 c.2.1, .int .i64 c.2.2]
def triA (c : C) : Value := .agg #[.int .i64 c.1, .int .i64 c.2.1, .int .i64 c.2.2]
def flat : List C → List Value
  | [] => []
  | c :: cs => .int .i64 c.1 :: .int .i64 c.2.1 :: .int .i64 c.2.2 :: flat cs
abbrev at3 (cs : List C) (i : Nat) : C := cs.getD i (0, 0, 0)
abbrev at1 (zs : List Int) (i : Nat) : Int := zs.getD i 0

theorem flat_length : ∀ (cs : List C), (flat cs).length = cs.length * 3
  | [] => rfl
  | c :: cs => by simp only [flat, List.length_cons, flat_length cs]; omega
theorem flat_append : ∀ (a b : List C), flat (a ++ b) = flat a ++ flat b
  | [], _ => rfl
  | c :: a, b => by simp [flat, flat_append a b]
theorem flat_drop : ∀ (k : Nat) (cs : List C), (flat cs).drop (k * 3) = flat (cs.drop k)
  | 0, cs => by simp
  | k + 1, [] => by simp [flat]
  | k + 1, c :: cs => by
    rw [show (k + 1) * 3 = k * 3 + 3 by omega]
    simp only [flat, List.drop_succ_cons]
    exact flat_drop k cs
theorem flat_take : ∀ (k : Nat) (cs : List C), (flat cs).take (k * 3) = flat (cs.take k)
  | 0, cs => by simp [flat]
  | k + 1, [] => by simp [flat]
  | k + 1, c :: cs => by
    rw [show (k + 1) * 3 = k * 3 + 3 by omega]
    simp only [flat, List.take_succ_cons]
    rw [flat_take k cs]
theorem drop_getD {cs : List C} {k : Nat} (h : k < cs.length) : cs.drop k = at3 cs k :: cs.drop (k + 1) := by
  rw [List.drop_eq_getElem_cons h]
  simp [at3, List.getD, h]
theorem flat_at {cs : List C} {k : Nat} (h : k < cs.length) : (0 + k * 3) + 3 ≤ (flat cs).length ∧ ((flat cs).drop (0 + k * 3)).take 3 = tri (at3 cs k) := by
  rw [Nat.zero_add]
  refine ⟨by rw [flat_length]; omega, ?_⟩
  rw [flat_drop, drop_getD h]
  rfl
/-- A number of a cell in a row of cells. -/
theorem flat_get {cs : List C} {k o : Nat} (h : k < cs.length) (ho : o < 3) : (flat cs)[0 + k * 3 + o]? = (tri (at3 cs k))[o]? := by
  have h1 := (flat_at h).2
  rw [← h1, List.getElem?_take, if_pos ho, List.getElem?_drop]
theorem flat_set {cs : List C} {k : Nat} {c : C} (h : k < cs.length) : (flat cs).take (0 + k * 3) ++ tri c ++ (flat cs).drop (0 + k * 3 + 3) = flat (cs.set k c) := by
  rw [Nat.zero_add, flat_take, show k * 3 + 3 = (k + 1) * 3 by omega, flat_drop, List.set_eq_take_append_cons_drop, if_pos h, flat_append, flat, List.append_assoc]
  rfl
theorem ints_at {zs : List Int} {k : Nat} (h : k < zs.length) : (ints zs)[0 + k * 1]? = some (.int .i64 (at1 zs k)) := by
  simp [ints, at1, List.getD, h]
theorem ints_length (zs : List Int) : (ints zs).length = zs.length := by simp [ints]
theorem ints_append (a b : List Int) : ints (a ++ b) = ints a ++ ints b := by simp [ints]
theorem ints_set {zs : List Int} {k : Nat} {z : Int} : (ints zs).set (0 + k * 1) (.int .i64 z) = ints (zs.set k z) := by simp [ints]
theorem zeros_ints : ∀ m, zeros [.int .i64 0] m = ints (List.replicate m 0)
  | 0 => rfl
  | m + 1 => by simp only [zeros, zeros_ints m, List.replicate_succ, ints, List.map_cons]; rfl
theorem zeros_flat : ∀ m, zeros [.int .i64 0, .int .i64 0, .int .i64 0] m = flat (List.replicate m (0, 0, 0))
  | 0 => rfl
  | m + 1 => by simp only [zeros, zeros_flat m, List.replicate_succ, flat]; rfl

/-! ### Rules -/
variable {P : Program} {N : Nat} {ops : Array Oper} {r : List Oper} {K : St → Prop} {ts : Temps} {H : Heap} {n : Nat} {s : St} {Q : Exit → St → Prop} {c d : Code} {id i : Nat}

theorem e_idxSK {t e : TypeId} {x y : Operand} {b o m k : Nat} {sp : Option Nat} {q : IntKind} {j : Int} {sz by' : Nat} {z : List Value} {g : Bool} {d' : TD} {sz' by'' : Nat} {z' : List Value} {g' : Bool} (a : Nat)
    (ht : ti P t = some ⟨.slice e, sz, by', z, g⟩) (hE : ti P e = some ⟨d', sz', by'', z', g'⟩) (hx : ev ts x = some (.slice (some ⟨b, o, sp⟩) m k)) (hi : ev ts y = some (.int q j)) (hj : j = (a : Int)) (hb : a < m) :
    E P (.indexAddr t x y) ts H n (.pointer (some ⟨b, o + a * sz', none⟩)) H n := by
  subst hj
  exact e_idxS (j := (a : Int)) ht hE hx hi ⟨by omega, by omega⟩
theorem e_idxAK {t e : TypeId} {x y : Operand} {b o m : Nat} {sp : Option Nat} {q : IntKind} {j : Int} {sz by' : Nat} {z : List Value} {g : Bool} {d' : TD} {sz' by'' : Nat} {z' : List Value} {g' : Bool} (a : Nat)
    (ht : ti P t = some ⟨.array m e, sz, by', z, g⟩) (hE : ti P e = some ⟨d', sz', by'', z', g'⟩) (hx : ev ts x = some (.pointer (some ⟨b, o, sp⟩))) (hi : ev ts y = some (.int q j)) (hj : j = (a : Int)) (hb : a < m) :
    E P (.indexAddr t x y) ts H n (.pointer (some ⟨b, o + a * sz', none⟩)) H n := by
  subst hj
  exact e_idxA (j := (a : Int)) ht hE hx hi ⟨by omega, by omega⟩

theorem e_sliceA {t e : TypeId} {x : Operand} {b o m : Nat} {sp : Option Nat} {ro : Bool} {cs : List Value} {sz by' : Nat} {z : List Value} {g : Bool} {d' : TD} {sz' by'' : Nat} {z' : List Value} {g' : Bool}
    (ht : ti P t = some ⟨.array (m + 1) e, sz, by', z, g⟩) (hE : ti P e = some ⟨d', sz', by'', z', g'⟩) (hx : ev ts x = some (.pointer (some ⟨b, o, sp⟩))) (hH : H b = some (.cells ro cs)) (hl : o + (m + 1) * sz' ≤ cs.length) :
    E P (.slice t x none none none) ts H n (.slice (some ⟨b, o, none⟩) (m + 1) sz') H n := by
  refine ⟨?_, rfl⟩
  simp only [cop, evO, ev1, hx, cSlice, ht, hE, hH]
  rw [if_pos hl]
  simp [cBounds, withH]

theorem sameInts_tri (a b : C) : sameInts [Value.int .i64 a.1, .int .i64 a.2.1, .int .i64 a.2.2] [.int .i64 b.1, .int .i64 b.2.1, .int .i64 b.2.2] = some (decide (a = b)) := by
  obtain ⟨a1, a2, a3⟩ := a
  obtain ⟨b1, b2, b3⟩ := b
  simp only [sameInts, Prod.mk.injEq]
  by_cases h1 : a1 = b1 <;> by_cases h2 : a2 = b2 <;> by_cases h3 : a3 = b3 <;> simp [h1, h2, h3]
/-- '==' of two cells. -/
theorem e_eqA3 {t e u : TypeId} {x y : Operand} {a b : C} {by' : Nat} {z : List Value} {by'' : Nat} {z' : List Value} {g' : Bool} (ht : ti P t = some ⟨.array 3 e, 3, by', z, false⟩) (hE : ti P e = some ⟨.int .i64, 1, by'', z', g'⟩)
    (hx : ev ts x = some (.agg #[.int .i64 a.1, .int .i64 a.2.1, .int .i64 a.2.2])) (hy : ev ts y = some (.agg #[.int .i64 b.1, .int .i64 b.2.1, .int .i64 b.2.2])) : E P (.binOp .eql t x y u) ts H n (.bool (decide (a = b))) H n := by
  refine ⟨?_, rfl⟩
  simp only [cop, ev2, hx, hy, cBin, cEq, ht, hE]
  rw [if_pos ⟨trivial, trivial, rfl, rfl⟩, sameInts_tri]
  rfl
section drawnStore
variable {op : Op} {ty : TypeId} {pos : String} {after : Array Edge} {gd : Option (Nat × Bool)} {v : Value} {m j b : Nat} {ms : List Nat} {acc : List (Nat × Foot)} {cb : Blk}
/-- A store in a drawn region. -/
theorem dSt (hw : wantC ops ⟨none, op, ty, pos, after, gd⟩ ts = some true) (hkd : kindOf op ts = .eff 0 0 []) (he : E P op ts (hide (hidden m acc) n H) n v ((hide (hidden m acc) n H).set b cb) n) (hb : b < n) (hu : b ∉ hidden m acc)
    (ha : accOk m (.eff n n [b]) acc) (hk : wopsD P N ops r ms (j + 1) ((j, .eff n n [b]) :: acc) ⟨ts, H.set b cb, n⟩ K) : wopsD P N ops (⟨none, op, ty, pos, after, gd⟩ :: r) (m :: ms) j acc ⟨ts, H, n⟩ K := by
  simp only [wopsD, okDst, hw, hkd, putT]
  refine ⟨trivial, [b], by simpa using ⟨hb, hu⟩, ?_⟩
  simp only [stepOp, he.c, he.h]
  refine ⟨Nat.le_refl _, fun y hy hyb hu' => ?_, ha, ?_⟩
  · rw [Heap.set_ne _ _ (by simpa using hyb)]; unfold hide; rw [if_pos ⟨hy, hu'⟩]
  · have : unhide (hidden m acc) n H ((hide (hidden m acc) n H).set b cb) = H.set b cb := by
      funext y
      unfold unhide
      by_cases e : y = b
      · subst e; rw [if_pos ⟨hb, hu⟩, Heap.set_same, Heap.set_same]
      · rw [Heap.set_ne _ _ e, Heap.set_ne _ _ e]
        split
        · rename_i hh; unfold hide; rw [if_pos hh]
        · rfl
    rw [this]; exact hk
end drawnStore

theorem W.ord {ts' : Temps} (D : List Nat) (he : keepT D ts = ts') (h : W P N c ⟨ts', H, n⟩ Q) : W P N c ⟨ts, H, n⟩ Q := W.less (Less.keep D ts H n) (he ▸ h)
theorem thenN (h : W P N d s Q) : thenS (fun s1 => W P N d s1 Q) Q .normal s := h
theorem thenE {R : St → Prop} (h : Q (.exit i) s) : thenS R Q (.exit i) s := h
theorem thenR {R : St → Prop} (h : Q .ret s) : thenS R Q .ret s := h
theorem blockN (h : Q .normal s) : blockS id Q .normal s := h
theorem blockR (h : Q .ret s) : blockS id Q .ret s := h
theorem blockX (h : Q .normal s) : blockS id Q (.exit id) s := by simpa [blockS] using h
theorem blockE (hi : (i == id) = false) (h : Q (.exit i) s) : blockS id Q (.exit i) s := by
  simp only [blockS]; rw [if_neg (by simpa using hi)]; exact h
/-- The end of a loop's round. -/
theorem roundN {C : Temps} {G0 : Heap} {m0 k : Nat} {U : List Nat} {Inv : Nat → Temps → Heap → Nat → Prop} {V' : Temps} {G : Heap} {m : Nat} (D : List Nat) (he : keepT D ts = V' ++ C) (hm : m0 ≤ m) (hk : Keeps U m0 G0 G) (k' : Nat) (hlt : k' < k) (hI : Inv k' V' G m) :
    thenS (roundQ C G0 m0 U Inv k) Q .normal ⟨ts, G, m⟩ := ⟨V', he ▸ Less.keep D ts G m, hm, hk, k', hlt, hI⟩
theorem lt_fresh {H : Heap} {n b : Nat} {c : Blk} (hf : ∀ x, n ≤ x → H x = none) (hb : H b = some c) : b < n := by
  rcases Nat.lt_or_ge b n with g | g
  · exact g
  · rw [hf b g] at hb; simp at hb

theorem Ends.v0 {fn : Func} {H : Heap} {n : Nat} {v v' : Value} (hle : ∀ x b, x < n → H x = some b → s.H x = some b) (hH : ∀ x, n ≤ x → H x = none) (hv : ltT n v = true) (hres : resOf P s fn.results.toList = some v') (he : v' = v) :
    Ends P fn H n s v H n := Ends.r0 hle hH hv (he ▸ hres)
theorem Ends.v1 {fn : Func} {H : Heap} {n : Nat} {v v' : Value} (m : Nat) {cs cs' : List Value} (hm : n ≤ m) (hle : ∀ x b, x < n → H x = some b → s.H x = some b) (hH : ∀ x, n ≤ x → H x = none)
    (hb : s.H m = some (.cells false cs')) (hcs : cs' = cs) (hp : cs.all plainA = true) (hv : ltT (n + 1) v = true) (hres : resOf P s fn.results.toList = some v') (he : v' = renT (one n m) v) :
    Ends P fn H n s v (H.set n (.cells false cs)) (n + 1) := Ends.r1 m cs hm hle hH (hcs ▸ hb) hp hv (he ▸ hres)

theorem resT {t : Nat} {v : Value} (h : get s.ts t = some v) : resOne P s (.tmp t) = some v := h
theorem resC {a b o : Nat} {sp : Option Nat} {t : TypeId} {ro : Bool} {cs : List Value} {dd : TD} {sz by' : Nat} {z : List Value} {g : Bool} (ht : ti P t = some ⟨dd, sz, by', z, g⟩) (hd : dd.agg = true) (h : get s.ts a = some (.pointer (some ⟨b, o, sp⟩)))
    (hH : s.H b = some (.cells ro cs)) (h0 : o = 0) (hl : cs.length = sz) : resOne P s (.cell a t) = some (.agg (List.toArray cs)) := by
  subst h0
  simp only [resOne, h, cLoad, ht, hH, loadC, hd, if_true]
  rw [if_pos (by omega), List.drop_zero, List.take_of_length_le (by omega)]
theorem resC1 {a b o : Nat} {sp : Option Nat} {t : TypeId} {ro : Bool} {cs : List Value} {dd : TD} {sz by' : Nat} {z : List Value} {g : Bool} {v : Value} (ht : ti P t = some ⟨dd, sz, by', z, g⟩) (hd : dd.agg = false) (h : get s.ts a = some (.pointer (some ⟨b, o, sp⟩)))
    (hH : s.H b = some (.cells ro cs)) (hl : cs[o]? = some v) : resOne P s (.cell a t) = some v := by
  simp only [resOne, h, cLoad, ht, hH, loadC, hd]
  exact hl
theorem res1 {r : ResultVar} {v : Value} (h : resOne P s r = some v) (ht : isTuple v = false) : resOf P s [r] = some v := by
  simp only [resOf, resAll, h, ht]; rfl
theorem res2 {r r' : ResultVar} {v v' : Value} (h : resOne P s r = some v) (h' : resOne P s r' = some v') (ht : isTuple v = false) (ht' : isTuple v' = false) : resOf P s [r, r'] = some (.tuple #[v, v']) := by
  simp only [resOf, resAll, h, h', List.all_cons, ht, ht']; rfl
theorem res3 {r r' r'' : ResultVar} {v v' v'' : Value} (h : resOne P s r = some v) (h' : resOne P s r' = some v') (h'' : resOne P s r'' = some v'') (ht : isTuple v = false) (ht' : isTuple v' = false) (ht'' : isTuple v'' = false) :
    resOf P s [r, r', r''] = some (.tuple #[v, v', v'']) := by
  simp only [resOf, resAll, h, h', h'', List.all_cons, ht, ht', ht'']; rfl

theorem hide_old {H G : Heap} {r n : Nat} {U : List Nat} (h : ∀ x b, x < r → H x = some b → G x = some b) (hr : r ≤ n) (hU : ∀ x ∈ U, r ≤ x) : ∀ x b, x < r → H x = some b → (hide U n G) x = some b := fun x b hx hb => by
  unfold hide; rw [if_pos ⟨by omega, fun hu => by have := hU x hu; omega⟩]; exact h x b hx hb
theorem e_eqB {x y : Operand} {a b : Bool} {t u : TypeId} {sz by' : Nat} {z : List Value} {g : Bool} (ht : ti P t = some ⟨.bool, sz, by', z, g⟩) (hx : ev ts x = some (.bool a)) (hy : ev ts y = some (.bool b)) :
    E P (.binOp .eql t x y u) ts H n (.bool (a == b)) H n := ⟨by simp only [cop, ev2, hx, hy, cBin, cEq, ht]; rfl, rfl⟩
theorem e_neqB {x y : Operand} {a b : Bool} {t u : TypeId} {sz by' : Nat} {z : List Value} {g : Bool} (ht : ti P t = some ⟨.bool, sz, by', z, g⟩) (hx : ev ts x = some (.bool a)) (hy : ev ts y = some (.bool b)) :
    E P (.binOp .neq t x y u) ts H n (.bool !(a == b)) H n := ⟨by simp only [cop, ev2, hx, hy, cBin, cEq, ht]; rfl, rfl⟩
/-- What the text of a drawn region says alone. -/
def accB (m : Nat) (f : Foot) : List (Nat × Foot) → Bool
  | [] => true
  | (i, g) :: r => (m.testBit i || match g, f with
    | .load _, .load _ => true
    | _, _ => false) && accB m f r
theorem accB_ok {m : Nat} {f : Foot} : ∀ {acc : List (Nat × Foot)}, accB m f acc = true → accOk m f acc
  | [], _ => trivial
  | (i, g) :: r, h => by
    simp only [accB, Bool.and_eq_true, Bool.or_eq_true] at h
    refine ⟨?_, accB_ok h.2⟩
    rcases h.1 with h1 | h1
    · exact .inl h1
    · refine .inr ?_
      cases g <;> cases f <;> simp at h1
      trivial

/-- The old heap, but for some blocks. -/
def OldBut (U : List Nat) (n : Nat) (H G : Heap) : Prop := ∀ x c, x < n → x ∉ U → H x = some c → G x = some c
theorem OldBut.self {U : List Nat} {n : Nat} {H : Heap} : OldBut U n H H := fun _ _ _ _ h => h
theorem OldBut.set {U : List Nat} {n x : Nat} {H G : Heap} {b : Blk} (h : OldBut U n H G) (hx : n ≤ x ∨ x ∈ U) : OldBut U n H (G.set x b) := fun y c hy hu hc => by
  rw [Heap.set_ne _ _ (by rcases hx with g | g; omega; exact fun e => hu (e ▸ g))]; exact h y c hy hu hc
theorem OldBut.keep {U U' : List Nat} {n m : Nat} {H G0 G : Heap} (hk : Keeps U' m G0 G) (h : OldBut U n H G0) (hm : n ≤ m) (hU : ∀ x ∈ U', n ≤ x ∨ x ∈ U) : OldBut U n H G := fun y c hy hu hc => by
  rw [hk y (by omega) (fun hh => by rcases hU y hh with g | g; omega; exact hu g)]; exact h y c hy hu hc
/-- One old block written anew. -/
theorem Ends.vU {fn : Func} {H : Heap} {n b : Nat} {v v' : Value} {cs cs' : List Value} (hb : b < n) (hle : OldBut [b] n H s.H) (hH : ∀ x, n ≤ x → H x = none) (hbk : s.H b = some (.cells false cs')) (hcs : cs' = cs) (hp : cs.all plainA = true)
    (hv : ltT n v = true) (hres : resOf P s fn.results.toList = some v') (he : v' = v) : Ends P fn H n s v (H.set b (.cells false cs)) n := by
  subst hcs he
  refine ⟨id, fun _ _ => rfl, by rw [hres]; congr 1; exact (renT_id _).symm, hv, fun x c hx => ?_, fun x y _ _ h => h⟩
  by_cases e : x = b
  · subst e
    rw [Heap.set_same] at hx
    obtain rfl := Option.some.inj hx
    refine .inr ⟨hb, ?_⟩
    simp only [id, hbk]
    exact ⟨rfl, plain_ren hp _⟩
  · rw [Heap.set_ne _ _ e] at hx
    have hlt : x < n := by
      rcases Nat.lt_or_ge x n with g | g
      · exact g
      · rw [hH x g] at hx; simp at hx
    exact .inl ⟨hlt, hx, hle x c hlt (by simpa using e) hx⟩

theorem e_makeK {t e : TypeId} {x y : Operand} {a : Int} {sz by' : Nat} {z : List Value} {g : Bool} {d' : TD} {sz' by'' : Nat} {z' : List Value} {g' : Bool} (m : Nat)
    (ht : ti P t = some ⟨.slice e, sz, by', z, g⟩) (hE : ti P e = some ⟨d', sz', by'', z', g'⟩) (hx : ev ts x = some (.int .i64 a)) (hy : ev ts y = some (.int .i64 a)) (hm : a = (m : Int))
    (hk : by'' ≤ 2 ^ 16 ∧ z'.length = sz' ∧ z'.all konst0 = true) (hlt : m ≤ 2 ^ 30) :
    E P (.makeSlice t x y) ts H n (.slice (some ⟨n, 0, none⟩) m sz') (H.set n (.cells false (zeros z' m))) (n + 1) := by
  subst hm; exact e_make ht hE hx hy hk hlt

theorem ints_plain (zs : List Int) : (ints zs).all plainA = true := by simp [ints, plainA]
theorem flat_plain : ∀ cs : List C, (flat cs).all plainA = true
  | [] => rfl
  | c :: cs => by simp [flat, plainA, flat_plain cs]
theorem keep_old {H G0 G : Heap} {n m : Nat} {U : List Nat} (hk : Keeps U m G0 G) (h : ∀ x b, x < n → H x = some b → G0 x = some b) (hm : n ≤ m) (hU : ∀ x ∈ U, n ≤ x) : ∀ x b, x < n → H x = some b → G x = some b := fun x b hx hb => by
  rw [hk x (by omega) (fun hu => by have := hU x hu; omega)]; exact h x b hx hb

end Go.Sep
