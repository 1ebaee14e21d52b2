/- One operation that calls no Go function: canonical, and that the machine does the same. -/
import Derived.Test.YtkfhblkjllbejaaOps9
namespace Go.Sep
open Go
set_option linter.unusedVariables false
set_option linter.unusedSimpArgs false

variable {P : Program}

def evs (ts : Temps) : List Operand → Option (List Value)
  | [] => some []
  | x :: xs => match ev ts x, evs ts xs with
    | some v, some vs => some (v :: vs)
    | _, _ => none

def evParts (ts : Temps) : List (Nat × Operand) → Option (List (Nat × Value))
  | [] => some []
  | (i, x) :: xs => match ev ts x, evParts ts xs with
    | some v, some vs => some ((i, v) :: vs)
    | _, _ => none

def evO (ts : Temps) : Option Operand → Option (Option Value)
  | none => some none
  | some x => match ev ts x with
    | some v => some (some v)
    | none => none

def isTuple : Value → Bool
  | .tuple _ => true
  | _ => false

theorem VT.toVA {β : Names} {v u : Value} (h : VT β v u) (ht : isTuple v = false) : VA β v u := by
  cases v <;> first | exact h | simp [isTuple] at ht

theorem evs_rel {N : Nat} {β : Names} {s : St} {a : Act} {w : World} (hr : Rel N β s a w) : ∀ {xs : List Operand} {vs : List Value}, evs s.ts xs = some vs → All2 (VT β) vs (xs.map a.eval)
  | [], vs, h => by simp [evs] at h; subst h; trivial
  | x :: xs, vs, h => by
    simp only [evs] at h
    split at h
    · rename_i v vs' hv hvs
      obtain rfl := Option.some.inj h
      exact ⟨ev_rel hr hv, evs_rel hr hvs⟩
    · simp at h

theorem evParts_rel {N : Nat} {β : Names} {s : St} {a : Act} {w : World} (hr : Rel N β s a w) : ∀ {xs : List (Nat × Operand)} {vs : List (Nat × Value)}, evParts s.ts xs = some vs →
    (vs.all fun p => !isTuple p.2) = true → All2 (fun (p q : Nat × Value) => p.1 = q.1 ∧ VA β p.2 q.2) vs (xs.map fun (i, x) => (i, a.eval x))
  | [], vs, h, _ => by simp [evParts] at h; subst h; trivial
  | (i, x) :: xs, vs, h, ht => by
    simp only [evParts] at h
    split at h
    · rename_i v vs' hv hvs
      obtain rfl := Option.some.inj h
      simp at ht
      exact ⟨⟨rfl, (ev_rel hr hv).toVA ht.1⟩, evParts_rel hr hvs (by simpa using ht.2)⟩
    · simp at h

theorem evO_rel {N : Nat} {β : Names} {s : St} {a : Act} {w : World} (hr : Rel N β s a w) {x : Option Operand} {v : Option Value} (h : evO s.ts x = some v) : OptRel β v (x.map a.eval) := by
  cases x with
  | none => simp [evO] at h; subst h; exact .inl ⟨rfl, rfl⟩
  | some x =>
    simp only [evO] at h
    split at h
    · rename_i u hu
      obtain rfl := Option.some.inj h
      exact .inr ⟨_, _, rfl, rfl, ev_rel hr hu⟩
    · simp at h

def withH (H : Heap) (n : Nat) : Option Value → Option (Value × Heap × Nat)
  | some v => some (v, H, n)
  | none => none

def ev1 (ts : Temps) (x : Operand) (f : Value → Option Value) : Option Value :=
  match ev ts x with
  | some v => f v
  | none => none
def ev2 (ts : Temps) (x y : Operand) (f : Value → Value → Option Value) : Option Value :=
  match ev ts x, ev ts y with
  | some v, some u => f v u
  | _, _ => none

def cBuiltin (P : Program) (b : Builtin) (tys : Array TypeId) (xs : List Operand) (ts : Temps) (H : Heap) (n : Nat) : Option (Value × Heap × Nat) :=
  match b with
  | .len => withH H n (match tys.toList, xs with
    | [t], [x] => ev1 ts x (cLen P t)
    | _, _ => none)
  | .append => match xs with
    | [x, y] => match ev ts x, ev ts y with
      | some v, some u => cAppend P tys H n v u
      | _, _ => none
    | _ => none
  | .max => withH H n (match evs ts xs with | some vs => cMax vs | none => none)
  | .min => withH H n (match evs ts xs with | some vs => cMin vs | none => none)
  | .clear => match xs with
    | [x] => match ev ts x with
      | some v => match cClear P tys H v with
        | some H' => some (.tuple #[], H', n)
        | none => none
      | none => none
    | _ => none
  | _ => none

def cMapW (P : Program) (t : TypeId) (m k x : Operand) (ts : Temps) (H : Heap) (n : Nat) : Option (Value × Heap × Nat) :=
  match ev ts m, ev ts k, ev ts x with
  | some u, some q, some v => match cMapUpdate P t H u q v with
    | some H' => some (.tuple #[], H', n)
    | none => none
  | _, _, _ => none

def cop (P : Program) (o : Op) (ts : Temps) (H : Heap) (n : Nat) : Option (Value × Heap × Nat) :=
  match o with
  | .move x => withH H n (ev ts x)
  | .assign x => withH H n (ev ts x)
  | .pick c a b => match ev ts c with
    | some (.bool true) => withH H n (ev ts a)
    | some (.bool false) => withH H n (ev ts b)
    | _ => none
  | .alloc t => match ti P t with
    | some T => if T.zero.all konst0 then some (.pointer (some ⟨n, 0, none⟩), H.set n (.cells false T.zero), n + 1) else none
    | none => none
  | .box _ x => match ev ts x with
    | some v => if isTuple v then none else some (.pointer (some ⟨n, 0, none⟩), H.set n (.cells false v.cells.toList), n + 1)
    | none => none
  | .build t ps => match evParts ts ps.toList with
    | some vs => if vs.all (fun p => !isTuple p.2) then withH H n (cBuild P t vs) else none
    | none => none
  | .buildSlice t len ps => match evParts ts ps.toList with
    | some vs => if vs.all (fun p => !isTuple p.2) then cBuildSlice P t len H n vs else none
    | none => none
  | .load t x => withH H n (ev1 ts x (cLoad P t H))
  | .store t x y => match ev ts x, ev ts y with
    | some p, some v => if isTuple v then none else match cStore P t H p v with
      | some H' => some (.tuple #[], H', n)
      | none => none
    | _, _ => none
  | .binOp op t x y _ => withH H n (ev2 ts x y (cBin P op t))
  | .unOp op _ x => withH H n (ev1 ts x (cUn op))
  | .convert s d x => withH H n (ev1 ts x (cConv P s d))
  | .sliceToArrayPointer t x => withH H n (ev1 ts x (cArrayAt P t))
  | .makeFunc fn fs cs => match evs ts fs.toList, evs ts cs.toList with
    | some vs, some us => withH H n (cMakeFunc fn vs us)
    | _, _ => none
  | .makeSlice t x y => match ev ts x, ev ts y with
    | some v, some u => cMake P t H n v u
    | _, _ => none
  | .slice t x lo hi mx => match evO ts lo, evO ts hi, evO ts mx with
    | some l, some h, some m => withH H n (ev1 ts x fun v => cSlice P t H v l h m)
    | _, _, _ => none
  | .fieldAddr t x f => withH H n (ev1 ts x (cFieldAddr P t f))
  | .field t x f => withH H n (ev1 ts x (cField P t f))
  | .indexAddr t x i => withH H n (ev2 ts x i (cIndexAddr P t))
  | .index t x i => withH H n (ev2 ts x i (cIndex P t))
  | .extract x i => withH H n (ev1 ts x (cExtract i))
  | .call c => match c.callee with
    | .builtin b => cBuiltin P b c.argTypes c.args.toList ts H n
    | _ => none
  | .makeMap t none => cMakeMap P t H n
  | .lookup t x i ok => withH H n (ev2 ts x i (cLookup P t ok H))
  | .mapUpdate t m k x => cMapW P t m k x ts H n
  | .insert t m k x => cMapW P t m k x ts H n
  | _ => none

theorem withH_some {H H' : Heap} {n n' : Nat} {x : Option Value} {v : Value} (h : withH H n x = some (v, H', n')) : x = some v ∧ H' = H ∧ n' = n := by
  cases x with
  | none => simp [withH] at h
  | some u => simp [withH] at h; exact ⟨by rw [h.1], h.2.1.symm, h.2.2.symm⟩
theorem ev1_some {ts : Temps} {x : Operand} {f : Value → Option Value} {v : Value} (h : ev1 ts x f = some v) : ∃ u, ev ts x = some u ∧ f u = some v := by
  unfold ev1 at h
  split at h
  · exact ⟨_, ‹_›, h⟩
  · simp at h
theorem ev2_some {ts : Temps} {x y : Operand} {f : Value → Value → Option Value} {v : Value} (h : ev2 ts x y f = some v) : ∃ u r, ev ts x = some u ∧ ev ts y = some r ∧ f u r = some v := by
  unfold ev2 at h
  split at h
  · exact ⟨_, _, ‹_›, ‹_›, h⟩
  · simp at h

theorem yield_pure {N : Nat} {β : Names} {s : St} {a : Act} {w : World} (hr : Rel N β s a w) {r : Sem Value} {v : Value} (h : Pure P β w r v) :
    Yield s.n β s.H w ((do pure (Next.value (← r)) : Sem Next).run P w) v s.H s.n := by
  obtain ⟨u, hu, hv⟩ := h
  refine ⟨u, w, β, .inl ?_, hv, hr.sat, Nat.le_refl _, hr.fresh, Grow.refl _ _ hr.fresh⟩
  simp [hu]

theorem yield_made {N : Nat} {β : Names} {s : St} {a : Act} {w : World} (hr : Rel N β s a w) {r : Sem Value} {v : Value} {H' : Heap} {n' : Nat}
    (h : ∃ q w' β', r.run P w = .ok q w' ∧ VT β' v q ∧ Sat β' H' w' ∧ s.n ≤ n' ∧ (∀ x, n' ≤ x → β' x = none) ∧ Grow s.n β s.H w β' H' w') :
    Yield s.n β s.H w ((do pure (Next.value (← r)) : Sem Next).run P w) v H' n' := by
  obtain ⟨q, w', β', h1, h2, h3, h4, h5, h6⟩ := h
  exact ⟨q, w', β', .inl (by simp [h1]), h2, h3, h4, h5, h6⟩

theorem builtin_sound {N : Nat} {β : Names} {s : St} {a : Act} {w : World} (hr : Rel N β s a w) {b : Builtin} {tys : Array TypeId} {xs : List Operand} {v : Value} {H' : Heap} {n' : Nat}
    (h : cBuiltin P b tys xs s.ts s.H s.n = some (v, H', n')) (ty : TypeId) (cs : Array Bool) :
    Yield s.n β s.H w ((builtin b tys ty cs (xs.map a.eval).toArray).run P w) v H' n' := by
  unfold cBuiltin at h
  split at h
  case h_1 =>
    obtain ⟨h1, rfl, rfl⟩ := withH_some h
    split at h1
    case h_2 => simp at h1
    case h_1 t x ht =>
      obtain ⟨u, hu, h2⟩ := ev1_some h1
      have : tys = #[t] := Array.toList_inj.mp (by simpa using ht)
      subst this
      exact yield_pure hr (len_sound (ev_rel hr hu) h2)
  case h_2 =>
    split at h
    case h_2 => simp at h
    case h_1 x y =>
      split at h
      case h_2 => simp at h
      case h_1 u r hu hv =>
        exact yield_made hr (append_sound hr.sat hr.fresh (ev_rel hr hu) (ev_rel hr hv) h)
  case h_3 =>
    obtain ⟨h1, rfl, rfl⟩ := withH_some h
    split at h1
    · rename_i vs hvs
      exact yield_pure hr (max_sound (evs_rel hr hvs) h1)
    · simp at h1
  case h_4 =>
    obtain ⟨h1, rfl, rfl⟩ := withH_some h
    split at h1
    · rename_i vs hvs
      exact yield_pure hr (min_sound (evs_rel hr hvs) h1)
    · simp at h1
  case h_5 =>
    split at h
    case h_2 => simp at h
    case h_1 x =>
      split at h
      case h_2 => simp at h
      case h_1 u hu =>
        split at h
        case h_2 => simp at h
        case h_1 H2 hc =>
          simp only [Option.some.injEq, Prod.mk.injEq] at h
          obtain ⟨rfl, rfl, rfl⟩ := h
          obtain ⟨w', h1, h2, h3⟩ := clear_sound (ty := ty) (n := s.n) hr.sat hr.fresh (ev_rel hr hu) hc
          exact yield_made hr ⟨.tuple #[], w', β, h1, ⟨#[], rfl, trivial⟩, h2, Nat.le_refl _, hr.fresh, h3⟩
  case h_6 => simp at h

theorem mapW_sound {N : Nat} {β : Names} {s : St} {a : Act} {w : World} (hr : Rel N β s a w) {t : TypeId} {m k x : Operand} {v : Value} {H' : Heap} {n' : Nat}
    (h : cMapW P t m k x s.ts s.H s.n = some (v, H', n')) : Yield s.n β s.H w ((do Instr.mapUpdate t (a.eval m) (a.eval k) (a.eval x); pure Next.skip : Sem Next).run P w) v H' n' := by
  unfold cMapW at h
  split at h
  case h_2 => simp at h
  case h_1 u q p hu hq hp =>
    split at h
    case h_2 => simp at h
    case h_1 H2 hm =>
      simp only [Option.some.injEq, Prod.mk.injEq] at h
      obtain ⟨rfl, rfl, rfl⟩ := h
      have hpt : isTuple p = false := by
        cases p <;> first | rfl | (exfalso; unfold cMapUpdate at hm; revert hm; repeat (split <;> try simp))
      obtain ⟨w', h1, h2, h3⟩ := mapUpdate_sound (P := P) (n := s.n) hr.sat hr.fresh (ev_rel hr hu) (ev_rel hr hq) ((ev_rel hr hp).toVA hpt) hm
      exact ⟨undef, w', β, .inr ⟨by simp [h1], rfl⟩, ⟨#[], rfl, trivial⟩, h2, Nat.le_refl _, hr.fresh, h3⟩

theorem cop_sound {N : Nat} {β : Names} {s : St} {a : Act} {w : World} (hr : Rel N β s a w) {o : Oper} {v : Value} {H' : Heap} {n' : Nat}
    (h : cop P o.op s.ts s.H s.n = some (v, H', n')) : Yield s.n β s.H w ((execOp a.eval o).run P w) v H' n' := by
  unfold execOp
  simp only []
  unfold cop at h
  split at h
  case h_1 x hop =>
    obtain ⟨h1, rfl, rfl⟩ := withH_some h
    rw [hop]
    exact ⟨_, w, β, .inl rfl, ev_rel hr h1, hr.sat, Nat.le_refl _, hr.fresh, Grow.refl _ _ hr.fresh⟩
  case h_2 x hop =>
    obtain ⟨h1, rfl, rfl⟩ := withH_some h
    rw [hop]
    exact ⟨_, w, β, .inl rfl, ev_rel hr h1, hr.sat, Nat.le_refl _, hr.fresh, Grow.refl _ _ hr.fresh⟩
  case h_3 c x y hop =>
    rw [hop]
    split at h
    case h_3 => simp at h
    all_goals
      rename_i hc
      obtain ⟨h1, rfl, rfl⟩ := withH_some h
      have e := bool_inv (ev_rel hr hc)
      refine ⟨_, w, β, .inl ?_, ev_rel hr h1, hr.sat, Nat.le_refl _, hr.fresh, Grow.refl _ _ hr.fresh⟩
      simp [e, asBool]
  case h_4 t hop =>
    rw [hop]
    split at h
    case h_2 => simp at h
    case h_1 T hT =>
      split at h
      case isFalse => simp at h
      case isTrue hk =>
        simp only [Option.some.injEq, Prod.mk.injEq] at h
        obtain ⟨rfl, rfl, rfl⟩ := h
        obtain ⟨d, ii, z, hd, hii, hz, e1, e2, e3, e4, e5⟩ := ti_some hT
        have hzv : All2 (VC β) T.zero z.cells.toList := by rw [← e4]; exact konst0_All2 hk
        obtain ⟨β', hrun, hn, hle, g1, g2, g3⟩ := newRow_sound (P := P) hr.sat hr.fresh (cs := T.zero) (c := z.cells) t (by rw [e4]; simp) (fun i v hi => by
          obtain ⟨u, hu, huv⟩ := hzv.get i v hi; exact ⟨u, by simpa using hu, huv⟩)
        refine yield_made hr ⟨.pointer (some ⟨w.heap.size, 0, none⟩), _, β', ?_, (show VT β' (.pointer (some ⟨s.n, 0, none⟩)) _ from ⟨_, hn, rfl, by simp⟩), g1, Nat.le_succ _, g2, g3⟩
        simp [Instr.alloc, run_zero hii hz, newVar, hrun]
  case h_5 t x hop =>
    rw [hop]
    split at h
    case h_2 => simp at h
    case h_1 u hu =>
      split at h
      case isTrue => simp at h
      case isFalse hk =>
        simp only [Option.some.injEq, Prod.mk.injEq] at h
        obtain ⟨rfl, rfl, rfl⟩ := h
        obtain ⟨β', w', q, h1, h2, h3, h4, h5⟩ := newVar_sound (P := P) hr.sat hr.fresh t ((ev_rel hr hu).toVA (by simpa using hk))
        refine yield_made hr ⟨.pointer (some q), w', β', ?_, h2, h3, Nat.le_succ _, h4, h5⟩
        simp [Instr.box, h1]
  case h_6 t ps hop =>
    rw [hop]
    split at h
    case h_2 => simp at h
    case h_1 vs hvs =>
      split at h
      case isFalse => simp at h
      case isTrue hk =>
        obtain ⟨h1, rfl, rfl⟩ := withH_some h
        have := build_sound (P := P) (w := w) (evParts_rel hr hvs hk) h1
        refine yield_pure hr ?_
        have e : (ps.map fun (i, x) => (i, a.eval x)) = (ps.toList.map fun (i, x) => (i, a.eval x)).toArray := by rw [← Array.toList_map, Array.toArray_toList]
        rw [e]; exact this
  case h_7 t len ps hop =>
    rw [hop]
    split at h
    case h_2 => simp at h
    case h_1 vs hvs =>
      split at h
      case isFalse => simp at h
      case isTrue hk =>
        have := buildSlice_sound (P := P) (w := w) hr.sat hr.fresh (evParts_rel hr hvs hk) h
        refine yield_made hr ?_
        have e : (ps.map fun (i, x) => (i, a.eval x)) = (ps.toList.map fun (i, x) => (i, a.eval x)).toArray := by rw [← Array.toList_map, Array.toArray_toList]
        rw [e]; exact this
  case h_8 t x hop =>
    rw [hop]
    obtain ⟨h1, rfl, rfl⟩ := withH_some h
    obtain ⟨u, hu, h2⟩ := ev1_some h1
    obtain ⟨r, hr1, hr2⟩ := load_sound (P := P) hr.sat hr.fresh (ev_rel hr hu) h2
    exact yield_pure hr ⟨r, hr1, VT.of_VA hr2⟩
  case h_9 t x y hop =>
    rw [hop]
    split at h
    case h_2 => simp at h
    case h_1 p u hp hu =>
      split at h
      case isTrue => simp at h
      case isFalse hk =>
        split at h
        case h_2 => simp at h
        case h_1 H2 hst =>
          simp only [Option.some.injEq, Prod.mk.injEq] at h
          obtain ⟨rfl, rfl, rfl⟩ := h
          obtain ⟨w', h1, h2, h3⟩ := store_sound (P := P) hr.sat hr.fresh (ev_rel hr hp) ((ev_rel hr hu).toVA (by simpa using hk)) hst
          exact ⟨undef, w', β, .inr ⟨by simp [h1], rfl⟩, ⟨#[], rfl, trivial⟩, h2, Nat.le_refl _, hr.fresh, h3⟩
  case h_10 op t x y t2 hop =>
    rw [hop]
    obtain ⟨h1, rfl, rfl⟩ := withH_some h
    obtain ⟨u, r, hu, hv, h2⟩ := ev2_some h1
    exact yield_pure hr (bin_sound (ev_rel hr hu) (ev_rel hr hv) h2)
  case h_11 op t x hop =>
    rw [hop]
    obtain ⟨h1, rfl, rfl⟩ := withH_some h
    obtain ⟨u, hu, h2⟩ := ev1_some h1
    exact yield_pure hr (un_sound (ev_rel hr hu) h2)
  case h_12 sr d x hop =>
    rw [hop]
    obtain ⟨h1, rfl, rfl⟩ := withH_some h
    obtain ⟨u, hu, h2⟩ := ev1_some h1
    exact yield_pure hr (conv_sound (ev_rel hr hu) h2)
  case h_13 t x hop =>
    rw [hop]
    obtain ⟨h1, rfl, rfl⟩ := withH_some h
    obtain ⟨u, hu, h2⟩ := ev1_some h1
    exact yield_pure hr (arrayAt_sound (ev_rel hr hu) h2)
  case h_14 fn fs cs hop =>
    rw [hop]
    split at h
    case h_2 => simp at h
    case h_1 vs us hvs hus =>
      obtain ⟨h1, rfl, rfl⟩ := withH_some h
      have := makeFunc_sound (P := P) (w := w) (evs_rel hr hvs) (evs_rel hr hus) h1
      refine yield_pure hr ?_
      have e1 : fs.map a.eval = (fs.toList.map a.eval).toArray := by rw [← Array.toList_map, Array.toArray_toList]
      have e2 : cs.map a.eval = (cs.toList.map a.eval).toArray := by rw [← Array.toList_map, Array.toArray_toList]
      rw [e1, e2]; exact this
  case h_15 t x y hop =>
    rw [hop]
    split at h
    case h_2 => simp at h
    case h_1 u r hu hv =>
      exact yield_made hr (make_sound hr.sat hr.fresh (ev_rel hr hu) (ev_rel hr hv) h)
  case h_16 t x lo hi mx hop =>
    rw [hop]
    split at h
    case h_2 => simp at h
    case h_1 l hh m hl hhh hm =>
      obtain ⟨h1, rfl, rfl⟩ := withH_some h
      obtain ⟨u, hu, h2⟩ := ev1_some h1
      exact yield_pure hr (slice_sound hr.sat (ev_rel hr hu) ⟨evO_rel hr hl, evO_rel hr hhh, evO_rel hr hm, trivial⟩ h2)
  case h_17 t x f hop =>
    rw [hop]
    obtain ⟨h1, rfl, rfl⟩ := withH_some h
    obtain ⟨u, hu, h2⟩ := ev1_some h1
    exact yield_pure hr (fieldAddr_sound (ev_rel hr hu) h2)
  case h_18 t x f hop =>
    rw [hop]
    obtain ⟨h1, rfl, rfl⟩ := withH_some h
    obtain ⟨u, hu, h2⟩ := ev1_some h1
    exact yield_pure hr (field_sound (ev_rel hr hu) h2)
  case h_19 t x i hop =>
    rw [hop]
    obtain ⟨h1, rfl, rfl⟩ := withH_some h
    obtain ⟨u, r, hu, hv, h2⟩ := ev2_some h1
    exact yield_pure hr (indexAddr_sound (ev_rel hr hu) (ev_rel hr hv) h2)
  case h_20 t x i hop =>
    rw [hop]
    obtain ⟨h1, rfl, rfl⟩ := withH_some h
    obtain ⟨u, r, hu, hv, h2⟩ := ev2_some h1
    exact yield_pure hr (index_sound (ev_rel hr hu) (ev_rel hr hv) h2)
  case h_21 x i hop =>
    rw [hop]
    obtain ⟨h1, rfl, rfl⟩ := withH_some h
    obtain ⟨u, hu, h2⟩ := ev1_some h1
    exact yield_pure hr (extract_sound (ev_rel hr hu) h2)
  case h_22 c hop =>
    rw [hop]
    split at h
    case h_2 => simp at h
    case h_1 b hb =>
      have e : c.args.map a.eval = (c.args.toList.map a.eval).toArray := by rw [← Array.toList_map, Array.toArray_toList]
      have := builtin_sound (P := P) hr h o.type (c.args.map fun | .const _ => true | _ => false)
      simp only [resolve, hb, Sem.run_bind, Sem.run_pure, Result.andThen_ok, invoke, e]
      exact this
  case h_23 t hop =>
    rw [hop]
    simp only [cMakeMap, Option.some.injEq, Prod.mk.injEq] at h
    obtain ⟨rfl, rfl, rfl⟩ := h
    exact yield_made hr (makeMap_sound hr.sat hr.fresh t)
  case h_24 t x i ok hop =>
    rw [hop]
    obtain ⟨h1, rfl, rfl⟩ := withH_some h
    obtain ⟨u, r, hu, hv, h2⟩ := ev2_some h1
    exact yield_pure hr (lookup_sound hr.sat (ev_rel hr hu) (ev_rel hr hv) h2)
  case h_25 t m k x hop =>
    rw [hop]
    exact mapW_sound hr h
  case h_26 t m k x hop =>
    rw [hop]
    exact mapW_sound hr h
  case h_27 => simp at h

end Go.Sep
