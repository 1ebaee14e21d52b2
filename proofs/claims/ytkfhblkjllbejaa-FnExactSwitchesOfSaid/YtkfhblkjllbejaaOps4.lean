/- Operations on numbers; values built out of parts. -/
import Derived.Test.YtkfhblkjllbejaaOps3
import Derived.Laws.Small
namespace Go.Sep
open Go
set_option linter.unusedVariables false
set_option linter.unusedSimpArgs false

variable {P : Program}

/-! ### Numbers and bools -/

def cInt (op : BinOp) (k : IntKind) (x y : Int) : Option Value :=
  match op with
  | .add => some (.int k (k.wrap (x + y)))
  | .sub => some (.int k (k.wrap (x - y)))
  | .mul => some (.int k (k.wrap (x * y)))
  | .quo => if y = 0 then none else some (.int k (k.wrap (x.tdiv y)))
  | .rem => if y = 0 then none else some (.int k (x.tmod y))
  | .and => some (.int k (k.wrap (BitVec.ofInt k.bits x &&& BitVec.ofInt k.bits y).toNat))
  | .or => some (.int k (k.wrap (BitVec.ofInt k.bits x ||| BitVec.ofInt k.bits y).toNat))
  | .xor => some (.int k (k.wrap (BitVec.ofInt k.bits x ^^^ BitVec.ofInt k.bits y).toNat))
  | .andNot => some (.int k (k.wrap (BitVec.ofInt k.bits x &&& ~~~ BitVec.ofInt k.bits y).toNat))
  | .eql => some (.bool (x == y))
  | .neq => some (.bool (x != y))
  | .lss => some (.bool (x < y))
  | .leq => some (.bool (x ≤ y))
  | .gtr => some (.bool (x > y))
  | .geq => some (.bool (x ≥ y))
  | _ => none

def cShift (op : BinOp) (k : IntKind) (x y : Int) : Option Value :=
  match op with
  | .shl => if y < 0 then none else some (.int k (k.wrap (x * 2 ^ min y.toNat k.bits)))
  | .shr => if y < 0 then none else some (.int k (x.fdiv (2 ^ min y.toNat k.bits)))
  | _ => none

/-- Two rows of whole numbers of one kind are alike. -/
def sameInts : List Value → List Value → Option Bool
  | [], [] => some true
  | .int k a :: l, .int k' b :: m => if k = k' then (if a = b then sameInts l m else if l.length = m.length then some false else none) else none
  | _, _ => none

def cEq (P : Program) (t : TypeId) : Value → Value → Option Bool
  | .bool a, .bool b => match ti P t with
    | some T => match T.desc with
      | .bool => some (a == b)
      | _ => none
    | none => none
  | .agg xs, .agg ys => match ti P t with
    | some T => match T.desc with
      | .array n e => match ti P e with
        | some E => match E.desc with
          | .int k => if T.guard = false ∧ E.size = 1 ∧ xs.size = n ∧ ys.size = n then sameInts xs.toList ys.toList else none
          | _ => none
        | none => none
      | _ => none
    | none => none
  | _, _ => none

def cBin (P : Program) (op : BinOp) (t : TypeId) (x y : Value) : Option Value :=
  match x, y with
  | .int k a, .int k' b => match op with
    | .shl | .shr => cShift op k a b
    | _ => if k = k' then cInt op k a b else none
  | x, y => match op with
    | .eql => (cEq P t x y).map .bool
    | .neq => (cEq P t x y).map fun b => .bool !b
    | _ => none

theorem bin_int {β : Names} {w : World} {op : BinOp} {t : TypeId} {k k' : IntKind} {a b : Int} {v : Value} (h : cBin P op t (.int k a) (.int k' b) = some v) :
    (binOp op t (.int k a) (.int k' b)).run P w = .ok v w ∧ VT β v v := by
  have hT : ∀ k i, VT β (.int k i) (.int k i) := fun k i => rfl
  have hB : ∀ b, VT β (.bool b) (.bool b) := fun b => rfl
  unfold cBin at h
  cases op <;> simp only [cShift, cInt] at h <;> (repeat' split at h) <;> simp at h <;> subst h <;>
    first
      | (have hnb : ¬ b < 0 := by omega
         refine ⟨?_, hT _ _⟩
         simp only [binOp]
         unfold Op.shift; rw [if_neg hnb]; rfl)
      | (subst_vars; refine ⟨?_, hT _ _⟩; simp_all [binOp, Op.intArith, Op.intDiv, Op.intBits, Op.shift]; done)
      | (subst_vars; refine ⟨?_, hB _⟩; simp_all [binOp, Op.intCmp]; done)

theorem run_eqItems_ints {d : Nat} {e : TypeId} {k0 : IntKind} (hu : P.underlying e = some (.int k0)) {i : TypeInfo} (hi : P.info? e = some i) (hsz : i.size = 1) (w : World) :
    ∀ (l m xs ys : List Value) (is : List Nat) (off : Nat) (b : Bool), sameInts l m = some b → is = List.range' off l.length →
      xs.drop off = l → ys.drop off = m → l.length = m.length → (Op.eqItems (d + 1) e (P.cellsOf e) xs.toArray ys.toArray is).run P w = .ok b w := by
  have hce : P.cellsOf e = 1 := by simp [Program.cellsOf, hi, hsz]
  intro l
  induction l with
  | nil =>
    intro m xs ys is off b hb his hx hy hl
    cases m with
    | nil => simp [sameInts] at hb; subst hb; simp at his; subst his; simp [Op.eqItems]
    | cons _ _ => simp at hl
  | cons v l ih =>
    intro m xs ys is off b hb his hx hy hl
    cases m with
    | nil => simp at hl
    | cons u m =>
      obtain ⟨k, a, k', c, rfl, rfl⟩ : ∃ k a k' c, v = .int k a ∧ u = .int k' c := by
        cases v <;> cases u <;> simp [sameInts] at hb
        exact ⟨_, _, _, _, rfl, rfl⟩
      simp only [sameInts] at hb
      split at hb
      case isFalse => simp at hb
      case isTrue hk =>
        subst hk
        have hxo : xs[off]? = some (.int k a) := by have := congrArg (·[0]?) hx; simpa [List.getElem?_drop] using this
        have hyo : ys[off]? = some (.int k c) := by have := congrArg (·[0]?) hy; simpa [List.getElem?_drop] using this
        have hagg : ∀ w, (isAgg e).run P w = .ok false w := fun w => by rw [run_isAgg hu]; rfl
        have p1 : (part e xs.toArray off).run P w = .ok (.int k a) w := by simp [part, hagg, hxo]
        have p2 : (part e ys.toArray off).run P w = .ok (.int k c) w := by simp [part, hagg, hyo]
        have p3 : (Op.equalIn (d + 1) e (.int k a) (.int k c)).run P w = .ok (a == c) w := by simp [Op.equalIn, run_underlying hu]
        subst his
        simp only [List.length_cons, List.range'_succ, Op.eqItems, Sem.run_bind, hce, Nat.mul_one, p1, p2, p3, Result.andThen_ok]
        by_cases hac : a = c
        · subst hac
          simp only [if_true] at hb
          have hx' : xs.drop (off + 1) = l := by rw [← List.drop_drop, hx]; rfl
          have hy' : ys.drop (off + 1) = m := by rw [← List.drop_drop, hy]; rfl
          have := ih m xs ys (List.range' (off + 1) l.length) (off + 1) b hb rfl hx' hy' (by simpa using hl)
          rw [hce] at this
          simpa using this
        · rw [if_neg hac] at hb
          split at hb <;> simp at hb
          subst hb
          simp [hac]

theorem sameInts_cells {β : Names} : ∀ {l m l' m' : List Value} {b : Bool}, sameInts l m = some b → All2 (VC β) l l' → All2 (VC β) m m' →
    sameInts l' m' = some b
  | [], [], [], [], b, h, _, _ => h
  | [], [], _ :: _, _, _, _, hl, _ => hl.elim
  | [], [], [], _ :: _, _, _, _, hm => hm.elim
  | [], _ :: _, _, _, b, h, _, _ => by simp [sameInts] at h
  | v :: l, [], _, _, b, h, _, _ => by cases v <;> simp [sameInts] at h
  | v :: l, u :: m, [], _, b, h, hl, hm => hl.elim
  | v :: l, u :: m, _ :: _, [], b, h, hl, hm => hm.elim
  | v :: l, u :: m, v' :: l', u' :: m', b, h, hl, hm => by
    obtain ⟨k, a, k', c, rfl, rfl⟩ : ∃ k a k' c, v = .int k a ∧ u = .int k' c := by
      cases v <;> cases u <;> simp [sameInts] at h
      exact ⟨_, _, _, _, rfl, rfl⟩
    have e1 : v' = .int k a := (show VC β (.int k a) v' from hl.1).symm
    have e2 : u' = .int k' c := (show VC β (.int k' c) u' from hm.1).symm
    subst e1; subst e2
    simp only [sameInts] at h ⊢
    split at h
    · rename_i hk
      rw [if_pos hk]
      split at h
      · rename_i hac
        rw [if_pos hac]
        exact sameInts_cells h hl.2 hm.2
      · rename_i hac
        rw [if_neg hac, ← All2.length hl.2, ← All2.length hm.2]
        exact h
    · simp at h

theorem sameInts_length : ∀ {l m : List Value} {b : Bool}, sameInts l m = some b → l.length = m.length
  | [], [], _, _ => rfl
  | [], _ :: _, b, h => by simp [sameInts] at h
  | v :: l, [], b, h => by cases v <;> simp [sameInts] at h
  | v :: l, u :: m, b, h => by
    obtain ⟨k, a, k', c, rfl, rfl⟩ : ∃ k a k' c, v = .int k a ∧ u = .int k' c := by
      cases v <;> cases u <;> simp [sameInts] at h
      exact ⟨_, _, _, _, rfl, rfl⟩
    simp only [sameInts] at h
    split at h
    · split at h
      · simp [sameInts_length h]
      · split at h
        · simpa using ‹l.length = m.length›
        · simp at h
    · simp at h

theorem eq_sound {t : TypeId} {β : Names} {w : World} {x y u r : Value} {b : Bool} (hx : VT β x u) (hy : VT β y r) (h : cEq P t x y = some b) :
    (Op.equal t u r).run P w = .ok b w ∧ (∀ op X Y, (eqGuard op t X Y u r).run P w = .ok () w) := by
  unfold cEq at h
  split at h
  case h_3 => simp at h
  case h_1 a c =>
    obtain rfl := bool_inv hx
    obtain rfl := bool_inv hy
    split at h
    case h_2 => simp at h
    case h_1 T hT =>
      split at h
      case h_2 => simp at h
      case h_1 hd1 =>
        obtain ⟨d, ii, z, hd, hii, hz, e1, e2, e3, e4, e5⟩ := ti_some hT
        have := TD.of_bool (e1.symm.trans hd1)
        subst this
        simp at h
        subst h
        exact ⟨run_equal_bool w t a c hd, fun op X Y => by cases op <;> rfl⟩
  case h_2 xs ys =>
    obtain ⟨xs', rfl, hxs⟩ := agg_inv hx
    obtain ⟨ys', rfl, hys⟩ := agg_inv hy
    split at h
    case h_2 => simp at h
    case h_1 T hT =>
      split at h
      case h_2 => simp at h
      case h_1 n e hd1 =>
        split at h
        case h_2 => simp at h
        case h_1 E hE =>
          split at h
          case h_2 => simp at h
          case h_1 k hE1 =>
            split at h
            case isFalse => simp at h
            case isTrue hh =>
              obtain ⟨h1, h2, h3, h4⟩ := hh
              obtain ⟨d, ii, z, hd, hii, hz, e1, e2, e3, e4, e5⟩ := ti_some hT
              obtain ⟨d', i', z', hd', hi', hz', e1', e2', e3', e4', _⟩ := ti_some hE
              have := TD.of_array (e1.symm.trans hd1)
              subst this
              have := TD.of_int (e1'.symm.trans hE1)
              subst this
              have hsame := sameInts_cells h hxs hys
              have hl := sameInts_length hsame
              have hlx : xs'.toList.length = n := by rw [← hxs.length]; simpa using h3
              refine ⟨?_, fun op X Y => ?_⟩
              · unfold Op.equal
                show (Op.equalIn (9999 + 1) _ _ _).run P w = _
                rw [run_equalIn_array _ _ _ _ hd hi']
                have := run_eqItems_ints (P := P) (d := 9998) hd' hi' (by omega) w xs'.toList ys'.toList xs'.toList ys'.toList (List.range n) 0 b hsame
                  (by rw [hlx, List.range_eq_range']) (by simp) (by simp) hl
                simpa using this
              · rw [h1] at e5
                cases op <;> first | rfl | simp [eqGuard, ← e5]

theorem bin_sound {op : BinOp} {t : TypeId} {β : Names} {w : World} {x y u r v : Value} {X Y : Operand} (hx : VT β x u) (hy : VT β y r) (h : cBin P op t x y = some v) :
    Pure P β w (do eqGuard op t X Y u r; binOp op t u r) v := by
  by_cases hi : ∃ k a k' b, x = .int k a ∧ y = .int k' b
  · obtain ⟨k, a, k', b, rfl, rfl⟩ := hi
    obtain rfl := int_inv hx
    obtain rfl := int_inv hy
    obtain ⟨h1, h2⟩ := bin_int (β := β) (w := w) h
    refine ⟨v, ?_, h2⟩
    have hg : (eqGuard op t X Y (.int k a) (.int k' b)).run P w = .ok () w := by cases op <;> rfl
    simp only [Sem.run_bind, hg, Result.andThen_ok, h1]
  · have hc : (op = .eql ∧ ∃ b, cEq P t x y = some b ∧ v = .bool b) ∨ (op = .neq ∧ ∃ b, cEq P t x y = some b ∧ v = .bool !b) := by
      unfold cBin at h
      split at h
      · rename_i k a k' b
        exact absurd ⟨_, _, _, _, rfl, rfl⟩ hi
      · split at h
        · simp only [Option.map_eq_some_iff] at h
          obtain ⟨b, h1, h2⟩ := h; exact .inl ⟨rfl, b, h1, h2.symm⟩
        · simp only [Option.map_eq_some_iff] at h
          obtain ⟨b, h1, h2⟩ := h; exact .inr ⟨rfl, b, h1, h2.symm⟩
        · simp at h
    have shape : ∀ b, cEq P t x y = some b → (∃ p q, u = .bool p ∧ r = .bool q) ∨ (∃ p q, u = .agg p ∧ r = .agg q) := by
      intro b hb
      unfold cEq at hb
      split at hb
      case h_3 => simp at hb
      case h_1 a c => exact .inl ⟨a, c, bool_inv hx, bool_inv hy⟩
      case h_2 xs ys =>
        obtain ⟨xs', rfl, _⟩ := agg_inv hx
        obtain ⟨ys', rfl, _⟩ := agg_inv hy
        exact .inr ⟨_, _, rfl, rfl⟩
    rcases hc with ⟨rfl, b, hb, rfl⟩ | ⟨rfl, b, hb, rfl⟩
    all_goals
      obtain ⟨h1, h2⟩ := eq_sound (P := P) (w := w) hx hy hb
      refine ⟨_, ?_, rfl⟩
      simp only [Sem.run_bind, h2, Result.andThen_ok]
      rcases shape b hb with ⟨p, q, rfl, rfl⟩ | ⟨p, q, rfl, rfl⟩ <;> simp [binOp, h1]

def cUn (op : UnOp) : Value → Option Value
  | .int k n => match op with
    | .neg => some (.int k (k.wrap (0 - n)))
    | .xor => some (.int k (k.wrap (BitVec.ofInt k.bits (if k.signed then -1 else k.max) ^^^ BitVec.ofInt k.bits n).toNat))
    | _ => none
  | .bool b => match op with
    | .not => some (.bool !b)
    | _ => none
  | _ => none

theorem un_sound {op : UnOp} {β : Names} {w : World} {x u v : Value} (hx : VT β x u) (h : cUn op x = some v) : Pure P β w (Op.unary op u) v := by
  unfold cUn at h
  split at h
  · obtain rfl := int_inv hx
    split at h <;> simp at h <;> subst h
    · exact ⟨_, by simp [Op.unary, Op.intArith], rfl⟩
    · exact ⟨_, by simp [Op.unary, Op.intBits], rfl⟩
  · obtain rfl := bool_inv hx
    split at h <;> simp at h <;> subst h
    exact ⟨_, by simp [Op.unary], rfl⟩
  · simp at h

def cConv (P : Program) (src dst : TypeId) : Value → Option Value
  | .int k n => match ti P src, ti P dst with
    | some _, some T => match T.desc with
      | .int k' => some (.int k' (k'.wrap n))
      | _ => none
    | _, _ => none
  | _ => none

theorem conv_sound {src dst : TypeId} {β : Names} {w : World} {x u v : Value} (hx : VT β x u) (h : cConv P src dst x = some v) : Pure P β w (convert src dst u) v := by
  obtain ⟨k, n, rfl⟩ : ∃ k n, x = .int k n := by cases x <;> simp [cConv] at h; exact ⟨_, _, rfl⟩
  obtain rfl := int_inv hx
  simp only [cConv] at h
  split at h
  case h_2 => simp at h
  case h_1 S T hS hT =>
    split at h
    case h_2 => simp at h
    case h_1 k' hk' =>
      simp at h
      subst h
      obtain ⟨d, i, z, hd, hi, hz, e1, _⟩ := ti_some hT
      obtain ⟨d', i', z', hd', _⟩ := ti_some hS
      have := TD.of_int (e1.symm.trans hk')
      subst this
      exact ⟨_, by simp [convert, run_underlying hd, run_underlying hd', Conv.intToInt], rfl⟩

def cPick : Value → Option Value → Option Value → Option Value
  | .bool true, some a, _ => some a
  | .bool false, _, some b => some b
  | _, _, _ => none

/-! ### Greatest and least -/

def cMax : List Value → Option Value
  | [.int k a] => some (.int k a)
  | [.int k a, .int k' b] => if k = k' then some (.int k (max a b)) else none
  | [.int k a, .int k' b, .int k'' c] => if k = k' ∧ k = k'' then some (.int k (max (max a b) c)) else none
  | _ => none
def cMin : List Value → Option Value
  | [.int k a] => some (.int k a)
  | [.int k a, .int k' b] => if k = k' then some (.int k (min a b)) else none
  | [.int k a, .int k' b, .int k'' c] => if k = k' ∧ k = k'' then some (.int k (min (min a b) c)) else none
  | _ => none

end Go.Sep
