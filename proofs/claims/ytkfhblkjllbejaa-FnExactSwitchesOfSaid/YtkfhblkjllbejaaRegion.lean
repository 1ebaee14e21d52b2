/- Calls of Go functions; regions whose order is the text's. -/
import Derived.Test.YtkfhblkjllbejaaCop
namespace Go.Sep
open Go
set_option linter.unusedVariables false
set_option linter.unusedSimpArgs false

variable {P : Program}

/-- The triple for a function. -/
def Fn (P : Program) (f : FuncId) (args : List Value) (H : Heap) (n : Nat) (v : Value) (H' : Heap) (n' : Nat) : Prop :=
  (∃ fn, P.funcs[f]? = some fn ∧ fn.body.isSome = true ∧ (fn.name == "runtime.NumGoroutine") = false) ∧ n ≤ n' ∧
  ∀ β (cargs : Array Value) w, All2 (VA β) args cargs.toList → Sat β H w → (∀ x, n ≤ x → β x = none) →
    Calls P f cargs w fun e w' => ∃ u β', e = .returned u ∧ VT β' v u ∧ Sat β' H' w' ∧ (∀ x, n' ≤ x → β' x = none) ∧ Grow n β H w β' H' w'

theorem Grow.le {n : Nat} {β β' : Names} {H H' : Heap} {w w' : World} (h : Grow n β H w β' H' w') (hf : ∀ x, n ≤ x → β x = none) : β.le β' := fun x l hx => by
  by_cases e : x < n
  · rw [h.names x e]; exact hx
  · rw [hf x (by omega)] at hx; simp at hx

def putT (ts : Temps) (d : Option Tmp) (v : Value) : Temps :=
  match d with
  | some t => (t, v) :: ts
  | none => ts

def okDst (N : Nat) : Option Tmp → Bool
  | some t => t < N
  | none => true

theorem Rel.put {N : Nat} {β β' : Names} {s : St} {a : Act} {w w' : World} (hr : Rel N β s a w) {d : Option Tmp} (hd : okDst N d = true) {v u : Value} {H' : Heap} {n' : Nat}
    (hle : β.le β') (hv : VT β' v u) (hs : Sat β' H' w') (hf : ∀ x, n' ≤ x → β' x = none) : Rel N β' ⟨putT s.ts d v, H', n'⟩ (a.put d u) w' := by
  refine ⟨?_, ?_, ?_, hs, hf⟩
  · cases d <;> exact hr.defers
  · cases d
    · exact hr.size
    · simp [Act.put, hr.size]
  · intro t x ht
    cases d with
    | none =>
      obtain ⟨y, hy, hyv⟩ := hr.tmp t x ht
      exact ⟨y, hy, hyv.mono hle⟩
    | some d =>
      simp only [okDst, decide_eq_true_eq] at hd
      simp only [putT, get] at ht
      split at ht
      · rename_i e
        subst e
        obtain rfl := Option.some.inj ht
        refine ⟨u, ?_, hv⟩
        simp [Act.put, hr.size, hd]
      · rename_i e
        obtain ⟨y, hy, hyv⟩ := hr.tmp t x ht
        refine ⟨y, ?_, hyv.mono hle⟩
        simp [Act.put, Array.getElem?_setIfInBounds_ne e, hy]

/-- The Go function that an operation calls, and what it hands over. -/
def calleeOf (ts : Temps) : Op → Option (FuncId × List Value)
  | .call c => match c.callee with
    | .value f => match ev ts f, evs ts c.args.toList with
      | some (.func (.func g) _ cs), some vs => if vs.all (fun v => !isTuple v) then some (g, vs ++ cs.toList) else none
      | _, _ => none
    | _ => none
  | _ => none

def stepOp (P : Program) (o : Op) (s : St) (K : Value → Heap → Nat → Prop) : Prop :=
  match calleeOf s.ts o with
  | some (f, args) => ∃ v H' n', Fn P f args s.H s.n v H' n' ∧ K v H' n'
  | none => match cop P o s.ts s.H s.n with
    | some (v, H', n') => K v H' n'
    | none => False

/-- Is the operation wanted? -/
def wantC (ops : Array Oper) (o : Oper) (ts : Temps) : Option Bool :=
  match o.guard with
  | none => some true
  | some (j, want) => match ops[j]? with
    | some oj => match oj.dst with
      | some t => match get ts t with
        | some (.bool b) => some (b == want)
        | some (.tuple _) => some false
        | _ => none
      | none => none
    | none => none

theorem wantC_sound {N : Nat} {β : Names} {s : St} {a : Act} {w : World} (hr : Rel N β s a w) {ops : Array Oper} {o : Oper} {b : Bool} (h : wantC ops o s.ts = some b) :
    Region.wanted o (yielded ops a.tmps) = b := by
  unfold wantC at h
  unfold Region.wanted
  split at h
  · rename_i hg
    rw [hg]
    simpa using h
  · rename_i j want hg
    rw [hg]
    simp only []
    split at h
    · rename_i oj hj
      split at h
      · rename_i t ht
        unfold yielded
        simp only [hj, Option.bind_some, ht]
        split at h
        · rename_i c hc
          obtain ⟨u, hu, hv⟩ := hr.tmp t _ hc
          obtain rfl := bool_inv hv
          simp only [hu]
          obtain rfl := Option.some.inj h
          cases c <;> cases want <;> rfl
        · rename_i vs hc
          obtain ⟨u, hu, hv⟩ := hr.tmp t _ hc
          obtain ⟨cs', rfl, _⟩ := hv
          simp only [hu]
          obtain rfl := Option.some.inj h
          rfl
        · simp at h
      · simp at h
    · simp at h

theorem All2.VA_of_VT {β : Names} : ∀ {l m : List Value}, All2 (VT β) l m → l.all (fun v => !isTuple v) = true → All2 (VA β) l m
  | [], [], _, _ => trivial
  | x :: l, y :: m, h, ht => by simp at ht; exact ⟨h.1.toVA ht.1, All2.VA_of_VT h.2 (by simpa using ht.2)⟩
  | [], _ :: _, h, _ => h.elim
  | _ :: _, [], h, _ => h.elim

theorem V0.toVA {β : Names} {c v : Value} (h : V0 β c v) : VA β c v := by
  cases c <;> first | exact h | exact h.elim

theorem call_sound {N : Nat} {β : Names} {s : St} {a : Act} {w : World} (hr : Rel N β s a w) {o : Oper} {f : FuncId} {args : List Value} (h : calleeOf s.ts o.op = some (f, args))
    (hfn : ∃ fn, P.funcs[f]? = some fn ∧ fn.body.isSome = true ∧ (fn.name == "runtime.NumGoroutine") = false) :
    ∃ cargs : Array Value, (execOp a.eval o).run P w = .ok (.enter f cargs) w ∧ All2 (VA β) args cargs.toList := by
  unfold calleeOf at h
  split at h
  case h_2 => simp at h
  case h_1 c hop =>
    split at h
    case h_2 => simp at h
    case h_1 g hg =>
      split at h
      case h_2 => simp at h
      case h_1 f' fs cs vs hf hvs =>
        split at h
        case isFalse => simp at h
        case isTrue ht =>
          simp only [Option.some.injEq, Prod.mk.injEq] at h
          obtain ⟨rfl, rfl⟩ := h
          have hv := ev_rel hr hf
          obtain ⟨rfl, cs', hcs, hall⟩ := hv
          have hargs := (evs_rel hr hvs).VA_of_VT ht
          obtain ⟨fn, h1, h2, h3⟩ := hfn
          refine ⟨c.args.map a.eval ++ cs', ?_, ?_⟩
          · unfold execOp
            simp only [hop, resolve, hg, hcs, Deferred.ofValue, Sem.run_bind, Sem.run_pure, Result.andThen_ok, invoke, callFunc]
            have h3' : fn.name ≠ "runtime.NumGoroutine" := by simpa using h3
            have hb' : fn.body ≠ none := by intro e; simp [e] at h2
            simp [h1, h3', hb']
          · rw [Array.toList_append, Array.toList_map]
            exact hargs.append (hall.mono fun _ _ => V0.toVA)

/-- One operation, whichever: what comes behind it holds. -/
theorem op_sound' {N : Nat} {β : Names} {s : St} {a : Act} {w : World} (hr : Rel N β s a w) {ops : Array Oper} {Q : Exit → Act → World → Prop} {i : Nat} {o : Oper} (ho : ops[i]? = some o)
    {K : Value → Heap → Nat → Prop} (h : (wantC ops o s.ts = some true ∧ stepOp P o.op s K) ∨ (wantC ops o s.ts = some false ∧ K (.tuple #[]) s.H s.n))
    {K' : Act → World → Prop}
    (hK : ∀ v H' n' β' u w', K v H' n' → s.n ≤ n' → VT β' v u → Sat β' H' w' → (∀ x, n' ≤ x → β' x = none) → Grow s.n β s.H w β' H' w' → K' (a.put o.dst u) w') :
    wpOp P ops Q i K' a w := by
  unfold wpOp
  simp only [ho]
  rcases h with ⟨hw, h⟩ | ⟨hw, h⟩
  · rw [if_pos (wantC_sound hr hw)]
    refine .inl ?_
    unfold Oper.wp
    unfold stepOp at h
    split at h
    · rename_i f args hc
      obtain ⟨v, H', n', hfn, hk⟩ := h
      obtain ⟨hex, hn, hcall⟩ := hfn
      obtain ⟨cargs, hrun, hargs⟩ := call_sound hr hc hex
      rw [hrun]
      simp only [Oper.upon]
      refine (hcall β cargs w hargs hr.sat hr.fresh).mono fun e w' he => ?_
      obtain ⟨u, β', rfl, hv, hs, hf, hg⟩ := he
      exact hK v H' n' β' _ _ hk hn hv hs hf hg
    · split at h
      · rename_i v H' n' hcop
        obtain ⟨u, w', β', hrun, hv, hs, hn, hf, hg⟩ := cop_sound (P := P) hr hcop
        rcases hrun with hrun | ⟨hrun, rfl⟩
        · rw [hrun]; simp only [Oper.upon]; exact hK v H' n' β' _ _ h hn hv hs hf hg
        · rw [hrun]; simp only [Oper.upon]; exact hK v H' n' β' _ _ h hn hv hs hf hg
      · exact h.elim
  · rw [wantC_sound hr hw]
    simp only [Bool.false_eq_true, if_false]
    exact hK _ _ _ β _ _ h (Nat.le_refl _) ⟨#[], rfl, trivial⟩ hr.sat hr.fresh (Grow.refl _ _ hr.fresh)

theorem op_sound {N : Nat} {β : Names} {s : St} {a : Act} {w : World} (hr : Rel N β s a w) {ops : Array Oper} {Q : Exit → Act → World → Prop} {i : Nat} {o : Oper} (ho : ops[i]? = some o)
    (hd : okDst N o.dst = true) {K : Value → Heap → Nat → Prop} (h : (wantC ops o s.ts = some true ∧ stepOp P o.op s K) ∨ (wantC ops o s.ts = some false ∧ K (.tuple #[]) s.H s.n))
    {K' : Act → World → Prop}
    (hK : ∀ v H' n' β' a' w', K v H' n' → s.n ≤ n' → Rel N β' ⟨putT s.ts o.dst v, H', n'⟩ a' w' → Grow s.n β s.H w β' H' w' → K' a' w') :
    wpOp P ops Q i K' a w :=
  op_sound' (P := P) hr ho h fun v H' n' β' u w' hk hn hv hs hf hg => hK v H' n' β' _ _ hk hn (hr.put hd (hg.le hr.fresh) hv hs hf) hg

/-- The operations one after the other. -/
def wops (P : Program) (N : Nat) (ops : Array Oper) : List Oper → St → (St → Prop) → Prop
  | [], s, K => K s
  | o :: r, s, K => okDst N o.dst = true ∧ match wantC ops o s.ts with
    | some true => stepOp P o.op s fun v H' n' => wops P N ops r ⟨putT s.ts o.dst v, H', n'⟩ K
    | some false => wops P N ops r ⟨putT s.ts o.dst (.tuple #[]), s.H, s.n⟩ K
    | none => False

theorem wops_sound {N : Nat} {ops : Array Oper} {Q : Exit → St → Prop} : ∀ (r : List Oper) (j : Nat), ops.toList.drop j = r → ∀ (s : St), wops P N ops r s (Q .normal) →
    ∀ (β0 : Names) (s0 : St) (w0 : World) (β : Names) (a : Act) (w : World), Rel N β s a w → s0.n ≤ s.n → Grow s0.n β0 s0.H w0 β s.H w →
      wpOps P ops (Post N β0 s0 w0 Q) (List.range' j r.length) a w
  | [], j, _, s, h, β0, s0, w0, β, a, w, hr, hn, hg => ⟨s, β, h, hn, hr, hg⟩
  | o :: r, j, hj, s, h, β0, s0, w0, β, a, w, hr, hn, hg => by
    have ho : ops[j]? = some o := by
      have := congrArg (·[0]?) hj
      simpa [List.getElem?_drop] using this
    have hj' : ops.toList.drop (j + 1) = r := by rw [← List.drop_drop, hj]; rfl
    simp only [List.length_cons, List.range'_succ]
    rw [wpOps_cons]
    simp only [wops] at h
    obtain ⟨hd, h⟩ := h
    refine op_sound (P := P) hr ho hd (K := fun v H' n' => wops P N ops r ⟨putT s.ts o.dst v, H', n'⟩ (Q .normal)) ?_ ?_
    · split at h
      · exact .inl ⟨‹_›, h⟩
      · exact .inr ⟨‹_›, h⟩
      · exact h.elim
    · intro v H' n' β' a' w' hk hn' hr' hg'
      exact wops_sound r (j + 1) hj' _ hk β0 s0 w0 β' a' w' hr' (Nat.le_trans hn hn') (hg.trans hn hg')

theorem W.region {N : Nat} {id : Nat} {ops : Array Oper} {s : St} {Q : Exit → St → Prop} (h : wops P N ops ops.toList s (Q .normal)) : W P N (.region id ops false) s Q :=
  fun β a w hr => wp_region (by
    have := wops_sound (P := P) (Q := Q) ops.toList 0 (by simp) s h β s w β a w hr (Nat.le_refl _) (Grow.refl _ _ hr.fresh)
    rw [List.range_eq_range']
    simpa using this)

theorem W.cond {N : Nat} {c : Operand} {x y : Code} {b : Bool} {s : St} {Q : Exit → St → Prop} (hc : ev s.ts c = some (.bool b)) (h : W P N (if b then x else y) s Q) : W P N (.cond c x y) s Q :=
  fun β a w hr => wp_cond (bool_inv (ev_rel hr hc)) (h β a w hr)

/-! ### The triple for a function out of the triple for its body -/

def resOne (P : Program) (s : St) : ResultVar → Option Value
  | .tmp t => get s.ts t
  | .cell a t => match get s.ts a with
    | some p => cLoad P t s.H p
    | none => none

def resAll (P : Program) (s : St) : List ResultVar → Option (List Value)
  | [] => some []
  | r :: rs => match resOne P s r, resAll P s rs with
    | some v, some vs => some (v :: vs)
    | _, _ => none

/-- What a function hands back. -/
def resOf (P : Program) (s : St) (rs : List ResultVar) : Option Value :=
  match resAll P s rs with
  | some [v] => if isTuple v then none else some v
  | some vs => if vs.all (fun v => !isTuple v) then some (.tuple vs.toArray) else none
  | none => none

/-- One result, in the machine. -/
def resF (tmps : Array Value) : ResultVar → Sem Value
  | .tmp t => pure (tmps.getD t undef)
  | .cell p t => do loadVar t (← asAddr (tmps.getD p undef))

theorem results_eq (fn : Func) (tmps : Array Value) : results fn tmps = (do
    let vs ← fn.results.mapM (resF tmps)
    pure (if h : vs.size = 1 then vs[0] else .tuple vs)) := rfl

theorem resOne_sound {N : Nat} {β : Names} {s : St} {a : Act} {w : World} (hr : Rel N β s a w) {r : ResultVar} {v : Value} (h : resOne P s r = some v) :
    ∃ u, (resF a.tmps r).run P w = .ok u w ∧ VT β v u := by
  cases r with
  | tmp t =>
    obtain ⟨u, hu, hv⟩ := hr.tmp t v h
    exact ⟨u, by simp [resF, hu], hv⟩
  | cell p t =>
    simp only [resOne] at h
    split at h
    · rename_i q hq
      obtain ⟨u, hu, hv⟩ := hr.tmp p q hq
      obtain ⟨r, h1, h2⟩ := load_sound (P := P) hr.sat hr.fresh hv h
      refine ⟨r, ?_, VT.of_VA h2⟩
      obtain ⟨p', rfl⟩ : ∃ p', q = .pointer (some p') := by
        cases q with
        | pointer x => cases x with
          | some x => exact ⟨x, rfl⟩
          | none => simp [cLoad] at h
        | _ => simp [cLoad] at h
      obtain ⟨l, _, rfl⟩ := pointer_inv hv
      simp only [Instr.loadAt, Instr.sureAddr, Sem.run_bind, Sem.run_pure, Result.andThen_ok] at h1
      simp [resF, hu, asAddr, h1]
    · simp at h

theorem resAll_sound {N : Nat} {β : Names} {s : St} {a : Act} {w : World} (hr : Rel N β s a w) : ∀ {rs : List ResultVar} {vs : List Value}, resAll P s rs = some vs →
    ∃ us : List Value, (rs.mapM (resF a.tmps)).run P w = .ok us w ∧ All2 (VT β) vs us
  | [], vs, h => by simp [resAll] at h; subst h; exact ⟨[], by simp, trivial⟩
  | r :: rs, vs, h => by
    simp only [resAll] at h
    split at h
    · rename_i v vs' h1 h2
      obtain rfl := Option.some.inj h
      obtain ⟨u, hu, hv⟩ := resOne_sound (P := P) hr h1
      obtain ⟨us, hus, hvs⟩ := resAll_sound hr h2
      refine ⟨u :: us, ?_, hv, hvs⟩
      rw [List.mapM_cons]
      simp only [Sem.run_bind, hu, Result.andThen_ok, hus, Sem.run_pure]
    · simp at h

theorem resOf_sound {N : Nat} {β : Names} {s : St} {a : Act} {w : World} (hr : Rel N β s a w) {fn : Func} {v : Value} (h : resOf P s fn.results.toList = some v) :
    ∃ u, (results fn a.tmps).run P w = .ok u w ∧ VT β v u := by
  have key : ∀ vs us : List Value, (fn.results.toList.mapM (resF a.tmps)).run P w = .ok us w →
      (results fn a.tmps).run P w = .ok (if h : us.toArray.size = 1 then us.toArray[0] else .tuple us.toArray) w := by
    intro vs us hus
    rw [results_eq, Array.mapM_eq_mapM_toList]
    simp only [Sem.run_bind, Sem.run_map, hus, Result.andThen_ok, Sem.run_pure]
  unfold resOf at h
  split at h
  · rename_i x hx
    split at h
    · simp at h
    · obtain rfl := Option.some.inj h
      obtain ⟨us, hus, hv⟩ := resAll_sound (P := P) hr hx
      obtain ⟨u, rfl⟩ : ∃ u, us = [u] := by
        cases us with
        | nil => exact hv.elim
        | cons u us => cases us with
          | nil => exact ⟨u, rfl⟩
          | cons _ _ => exact hv.2.elim
      exact ⟨u, by rw [key [x] _ hus]; simp, hv.1⟩
  · rename_i vs hnot hx
    split at h
    · rename_i ht
      obtain rfl := Option.some.inj h
      obtain ⟨us, hus, hv⟩ := resAll_sound (P := P) hr hx
      have hl := hv.length
      refine ⟨.tuple us.toArray, ?_, ⟨us.toArray, rfl, by simpa using hv.VA_of_VT ht⟩⟩
      rw [key vs _ hus, dif_neg]
      intro e
      have hvl : vs.length = 1 := by simpa [hl] using e
      obtain ⟨x, rfl⟩ := List.length_eq_one_iff.mp hvl
      exact hnot x rfl
    · simp at h
  · simp at h

/-! #### names told anew: what a function made gets the first new names, the rest is dropped -/

def renA (ρ : Nat → Nat) : Value → Value
  | .pointer (some a) => .pointer (some { a with block := ρ a.block })
  | .slice (some a) n e => .slice (some { a with block := ρ a.block }) n e
  | .map (some r) => .map (some (ρ r))
  | v => v
def renC (ρ : Nat → Nat) : Value → Value
  | .func fn fs cs => .func fn fs (cs.map (renA ρ))
  | v => renA ρ v
def renV (ρ : Nat → Nat) : Value → Value
  | .agg cs => .agg (cs.map (renC ρ))
  | v => renC ρ v
def renT (ρ : Nat → Nat) : Value → Value
  | .tuple cs => .tuple (cs.map (renV ρ))
  | v => renV ρ v

/-- All names in a value are below `n`. -/
def ltA (n : Nat) : Value → Bool
  | .pointer (some a) => a.block < n
  | .slice (some a) _ _ => a.block < n
  | .map (some r) => r < n
  | _ => true
def ltC (n : Nat) : Value → Bool
  | .func _ _ cs => cs.toList.all (ltA n)
  | v => ltA n v
def ltV (n : Nat) : Value → Bool
  | .agg cs => cs.toList.all (ltC n)
  | v => ltC n v
def ltT (n : Nat) : Value → Bool
  | .tuple cs => cs.toList.all (ltV n)
  | v => ltV n v

theorem V0.ren {β β' : Names} {ρ : Nat → Nat} {n : Nat} (h : ∀ x, x < n → β' x = β (ρ x)) {c v : Value} (hl : ltA n c = true) (hv : V0 β (renA ρ c) v) : V0 β' c v := by
  cases c with
  | pointer a => cases a with
    | none => exact hv
    | some a => obtain ⟨l, h1, h2⟩ := hv; exact ⟨l, by rw [h _ (by simpa [ltA] using hl)]; exact h1, h2⟩
  | slice a k e => cases a with
    | none => exact hv
    | some a => obtain ⟨l, c, h1, h2⟩ := hv; exact ⟨l, c, by rw [h _ (by simpa [ltA] using hl)]; exact h1, h2⟩
  | map r => cases r with
    | none => exact hv
    | some r => obtain ⟨l, h1, h2⟩ := hv; exact ⟨l, by rw [h _ (by simpa [ltA] using hl)]; exact h1, h2⟩
  | _ => exact hv

theorem All2.ren {R S : Value → Value → Prop} {f : Value → Value} {p : Value → Bool} (h : ∀ a b, p a = true → R (f a) b → S a b) : ∀ {l m : List Value}, l.all p = true → All2 R (l.map f) m → All2 S l m
  | [], [], _, _ => trivial
  | a :: l, b :: m, hp, hh => by simp at hp; exact ⟨h _ _ hp.1 hh.1, All2.ren h (by simpa using hp.2) hh.2⟩
  | [], _ :: _, _, hh => hh.elim
  | _ :: _, [], _, hh => hh.elim

theorem VC.ren {β β' : Names} {ρ : Nat → Nat} {n : Nat} (h : ∀ x, x < n → β' x = β (ρ x)) {c v : Value} (hl : ltC n c = true) (hv : VC β (renC ρ c) v) : VC β' c v := by
  by_cases hc : ∃ fn fs cs, c = .func fn fs cs
  · obtain ⟨fn, fs, cs, rfl⟩ := hc
    obtain ⟨h1, cs', h2, h3⟩ := hv
    exact ⟨h1, cs', h2, All2.ren (fun a b => V0.ren h) hl (by simpa using h3)⟩
  · have e1 : ltC n c = ltA n c := by cases c <;> first | rfl | exact absurd ⟨_, _, _, rfl⟩ hc
    have e2 : renC ρ c = renA ρ c := by cases c <;> first | rfl | exact absurd ⟨_, _, _, rfl⟩ hc
    have e3 : ∀ β, VC β (renA ρ c) v = V0 β (renA ρ c) v := by
      intro β
      cases c with
      | pointer a => cases a <;> rfl
      | slice a _ _ => cases a <;> rfl
      | map r => cases r <;> rfl
      | _ => first | rfl | exact absurd ⟨_, _, _, rfl⟩ hc
    have e4 : VC β' c v = V0 β' c v := by cases c <;> first | rfl | exact absurd ⟨_, _, _, rfl⟩ hc
    rw [e2, e3] at hv
    rw [e4]
    exact V0.ren h (e1 ▸ hl) hv

theorem VA.ren {β β' : Names} {ρ : Nat → Nat} {n : Nat} (h : ∀ x, x < n → β' x = β (ρ x)) {c v : Value} (hl : ltV n c = true) (hv : VA β (renV ρ c) v) : VA β' c v := by
  by_cases hc : ∃ cs, c = .agg cs
  · obtain ⟨cs, rfl⟩ := hc
    obtain ⟨cs', h2, h3⟩ := hv
    exact ⟨cs', h2, All2.ren (fun a b => VC.ren h) hl (by simpa using h3)⟩
  · have e1 : ltV n c = ltC n c := by cases c <;> first | rfl | exact absurd ⟨_, rfl⟩ hc
    have e2 : renV ρ c = renC ρ c := by cases c <;> first | rfl | exact absurd ⟨_, rfl⟩ hc
    have e3 : ∀ β, VA β (renC ρ c) v = VC β (renC ρ c) v := by
      intro β
      cases c with
      | pointer a => cases a <;> rfl
      | slice a _ _ => cases a <;> rfl
      | map r => cases r <;> rfl
      | _ => first | rfl | exact absurd ⟨_, rfl⟩ hc
    have e4 : VA β' c v = VC β' c v := by cases c <;> first | rfl | exact absurd ⟨_, rfl⟩ hc
    rw [e2, e3] at hv
    rw [e4]
    exact VC.ren h (e1 ▸ hl) hv

theorem VT.ren {β β' : Names} {ρ : Nat → Nat} {n : Nat} (h : ∀ x, x < n → β' x = β (ρ x)) {c v : Value} (hl : ltT n c = true) (hv : VT β (renT ρ c) v) : VT β' c v := by
  by_cases hc : ∃ cs, c = .tuple cs
  · obtain ⟨cs, rfl⟩ := hc
    obtain ⟨cs', h2, h3⟩ := hv
    exact ⟨cs', h2, All2.ren (fun a b => VA.ren h) hl (by simpa using h3)⟩
  · have e1 : ltT n c = ltV n c := by cases c <;> first | rfl | exact absurd ⟨_, rfl⟩ hc
    have e2 : renT ρ c = renV ρ c := by cases c <;> first | rfl | exact absurd ⟨_, rfl⟩ hc
    have e3 : ∀ β, VT β (renV ρ c) v = VA β (renV ρ c) v := by
      intro β
      cases c with
      | pointer a => cases a <;> rfl
      | slice a _ _ => cases a <;> rfl
      | map r => cases r <;> rfl
      | _ => first | rfl | exact absurd ⟨_, rfl⟩ hc
    have e4 : VT β' c v = VA β' c v := by cases c <;> first | rfl | exact absurd ⟨_, rfl⟩ hc
    rw [e2, e3] at hv
    rw [e4]
    exact VA.ren h (e1 ▸ hl) hv

/-- A block of the smaller heap, out of a block of the greater one. -/
def BlkRen (ρ : Nat → Nat) (n : Nat) : Blk → Option Blk → Prop
  | .cells ro cs, some (.cells ro' cs') => ro' = ro ∧ cs' = cs.map (renC ρ) ∧ cs.all (ltC n) = true
  | .map es, some (.map es') => es' = es.map (fun p => (renC ρ p.1, renC ρ p.2)) ∧ es.all (fun p => ltC n p.1 && ltC n p.2) = true
  | _, _ => False

/-- The end of a body: the names of what is handed back. -/
structure Ends (P : Program) (fn : Func) (H : Heap) (n : Nat) (s : St) (v : Value) (H' : Heap) (n' : Nat) : Prop where
  ex : ∃ ρ : Nat → Nat, (∀ x, x < n → ρ x = x) ∧ resOf P s fn.results.toList = some (renT ρ v) ∧ ltT n' v = true ∧
    (∀ x b, H' x = some b → (x < n ∧ H x = some b ∧ s.H x = some b) ∨ (x < n' ∧ BlkRen ρ n' b (s.H (ρ x)))) ∧ (∀ x y, x < n' → y < n' → x ≠ y → ρ x ≠ ρ y)

theorem renA_lt {ρ : Nat → Nat} {n : Nat} (h : ∀ x, x < n → ρ x = x) {v : Value} (hv : ltA n v = true) : renA ρ v = v := by
  cases v with
  | pointer a => cases a with
    | none => rfl
    | some a => simp [ltA] at hv; simp [renA, h _ hv]
  | slice a _ _ => cases a with
    | none => rfl
    | some a => simp [ltA] at hv; simp [renA, h _ hv]
  | map r => cases r with
    | none => rfl
    | some r => simp [ltA] at hv; simp [renA, h _ hv]
  | _ => rfl
theorem renC_lt {ρ : Nat → Nat} {n : Nat} (h : ∀ x, x < n → ρ x = x) {v : Value} (hv : ltC n v = true) : renC ρ v = v := by
  unfold ltC at hv
  split at hv
  · rename_i fn fs cs
    simp only [renC]
    congr 1
    refine Array.toList_inj.mp ?_
    rw [Array.toList_map]
    rw [List.all_eq_true] at hv
    calc cs.toList.map (renA ρ) = cs.toList.map id := List.map_congr_left fun v hv' => renA_lt h (hv v hv')
      _ = cs.toList := List.map_id _
  · rename_i hc
    have : renC ρ v = renA ρ v := by
      unfold renC
      split
      · exact absurd rfl (hc _ _ _)
      · rfl
    rw [this]
    exact renA_lt h hv

theorem ltA_mono {n m : Nat} (h : n ≤ m) {v : Value} (hv : ltA n v = true) : ltA m v = true := by
  unfold ltA at hv ⊢
  split at hv <;> simp_all <;> omega
theorem all_mono {p q : Value → Bool} (h : ∀ v, p v = true → q v = true) {l : List Value} (hl : l.all p = true) : l.all q = true := by
  rw [List.all_eq_true] at hl ⊢
  exact fun v hv => h v (hl v hv)
theorem ltC_mono {n m : Nat} (h : n ≤ m) {v : Value} (hv : ltC n v = true) : ltC m v = true := by
  unfold ltC at hv ⊢
  split at hv
  · exact all_mono (fun v => ltA_mono h) hv
  · exact ltA_mono h hv

theorem V0.lt {β : Names} {n : Nat} (hf : ∀ x, n ≤ x → β x = none) {c v : Value} (hv : V0 β c v) : ltA n c = true := by
  have key : ∀ x l, β x = some l → x < n := fun x l hx => by
    rcases Nat.lt_or_ge x n with g | g
    · exact g
    · rw [hf x g] at hx; simp at hx
  cases c with
  | pointer a => cases a with
    | none => rfl
    | some a => obtain ⟨l, h1, _⟩ := hv; simp [ltA]; exact key _ _ h1
  | slice a _ _ => cases a with
    | none => rfl
    | some a => obtain ⟨l, c, h1, _⟩ := hv; simp [ltA]; exact key _ _ h1
  | map r => cases r with
    | none => rfl
    | some r => obtain ⟨l, h1, _⟩ := hv; simp [ltA]; exact key _ _ h1
  | _ => rfl
theorem All2.lt {R : Value → Value → Prop} {p : Value → Bool} (h : ∀ a b, R a b → p a = true) : ∀ {l m : List Value}, All2 R l m → l.all p = true
  | [], [], _ => rfl
  | a :: l, b :: m, hh => by simp; exact ⟨h _ _ hh.1, by simpa using All2.lt h hh.2⟩
  | [], _ :: _, hh => hh.elim
  | _ :: _, [], hh => hh.elim
theorem VC.lt {β : Names} {n : Nat} (hf : ∀ x, n ≤ x → β x = none) {c v : Value} (hv : VC β c v) : ltC n c = true := by
  by_cases hc : ∃ fn fs cs, c = .func fn fs cs
  · obtain ⟨fn, fs, cs, rfl⟩ := hc
    obtain ⟨_, cs', _, h⟩ := hv
    exact All2.lt (R := V0 β) (fun _ _ hh => V0.lt hf hh) h
  · have e1 : ltC n c = ltA n c := by cases c <;> first | rfl | exact absurd ⟨_, _, _, rfl⟩ hc
    have e2 : VC β c v = V0 β c v := by cases c <;> first | rfl | exact absurd ⟨_, _, _, rfl⟩ hc
    rw [e1]; exact V0.lt hf (e2 ▸ hv)

/-- A block of the heap before, as a block of the heap behind. -/
theorem BlkRen.old {β : Names} {ρ : Nat → Nat} {n n' : Nat} (h : ∀ x, x < n → ρ x = x) (hf : ∀ x, n ≤ x → β x = none) (hn : n ≤ n') {w : World} {l : Loc} {b : Blk} (hb : BlkOk β w l b) : BlkRen ρ n' b (some b) := by
  cases b with
  | cells ro cs =>
    obtain ⟨c, el, fz, h1, h2, h3, h4, h5⟩ := hb
    have hlt : ∀ v ∈ cs, ltC n v = true := by
      intro v hv
      obtain ⟨i, hi⟩ := List.mem_iff_getElem?.mp hv
      obtain ⟨u, _, hu⟩ := h4 i v hi
      exact hu.lt hf
    refine ⟨rfl, ?_, List.all_eq_true.mpr fun v hv => ltC_mono hn (hlt v hv)⟩
    calc cs = cs.map id := (List.map_id _).symm
      _ = cs.map (renC ρ) := List.map_congr_left fun v hv => (renC_lt h (hlt v hv)).symm
  | map es =>
    obtain ⟨arr, clk, h1, h2⟩ := hb
    have hlt : ∀ p ∈ es, ltC n p.1 = true ∧ ltC n p.2 = true := by
      clear h1
      generalize arr.toList = m at h2
      induction es generalizing m with
      | nil => intro p hp; simp at hp
      | cons q es ih => cases m with
        | nil => exact h2.elim
        | cons r m =>
          intro p hp
          simp at hp
          rcases hp with rfl | hp
          · exact ⟨h2.1.1.lt hf, h2.1.2.lt hf⟩
          · exact ih m h2.2 p hp
    refine ⟨?_, List.all_eq_true.mpr fun p hp => by simp [ltC_mono hn (hlt p hp).1, ltC_mono hn (hlt p hp).2]⟩
    calc es = es.map id := (List.map_id _).symm
      _ = es.map (fun p => (renC ρ p.1, renC ρ p.2)) := List.map_congr_left fun p hp => by rw [renC_lt h (hlt p hp).1, renC_lt h (hlt p hp).2]; rfl

theorem BlkRen.ok {β β' : Names} {ρ : Nat → Nat} {n : Nat} (h : ∀ x, x < n → β' x = β (ρ x)) {w : World} {l : Loc} {b : Blk} {b' : Option Blk} (hb : BlkRen ρ n b b') (hk : ∀ c, b' = some c → BlkOk β w l c) :
    BlkOk β' w l b ∧ (∃ c, b' = some c ∧ c.rw = b.rw) := by
  cases b with
  | cells ro cs =>
    cases b' with
    | none => exact hb.elim
    | some c => cases c with
      | map _ => exact hb.elim
      | cells ro' cs' =>
        obtain ⟨rfl, rfl, hl⟩ := hb
        obtain ⟨c, el, fz, h1, h2, h3, h4, h5⟩ := hk _ rfl
        refine ⟨⟨c, el, fz, h1, h2, by simpa using h3, fun i v hi => ?_, h5⟩, _, rfl, rfl⟩
        obtain ⟨u, hu, huv⟩ := h4 i (renC ρ v) (by simp [hi])
        exact ⟨u, hu, VC.ren h (List.all_eq_true.mp hl v (List.mem_of_getElem? hi)) huv⟩
  | map es =>
    cases b' with
    | none => exact hb.elim
    | some c => cases c with
      | cells _ _ => exact hb.elim
      | map es' =>
        obtain ⟨rfl, hl⟩ := hb
        obtain ⟨arr, clk, h1, h2⟩ := hk _ rfl
        refine ⟨⟨arr, clk, h1, ?_⟩, _, rfl, rfl⟩
        clear h1 hk
        generalize arr.toList = m at h2 ⊢
        induction es generalizing m with
        | nil => cases m with
          | nil => trivial
          | cons _ _ => exact h2.elim
        | cons p es ih => cases m with
          | nil => exact h2.elim
          | cons q m =>
            simp at hl
            exact ⟨⟨VC.ren h hl.1.1 h2.1.1, VC.ren h hl.1.2 h2.1.2⟩, ih (by simpa using hl.2) m h2.2⟩

theorem Fn.intro {f : FuncId} {fn : Func} {c : Code} {args : List Value} {H H' : Heap} {n n' : Nat} {v : Value} (hf : P.funcs[f]? = some fn) (hb : fn.body = some c)
    (hname : (fn.name == "runtime.NumGoroutine") = false) (ha : args.length ≤ fn.ntmps) (hn : n ≤ n')
    (h : W P fn.ntmps c ⟨(List.range args.length).zip args, H, n⟩ fun e s => (e = .normal ∨ e = .ret) ∧ Ends P fn H n s v H' n') : Fn P f args H n v H' n' := by
  refine ⟨⟨fn, hf, by simp [hb], hname⟩, hn, fun β cargs w hargs hs hfresh => ?_⟩
  refine calls_of_wp hf hb ?_
  have hal : cargs.size = args.length := by have := hargs.length; simpa using this.symm
  have hget : ∀ (l : List Value) (k t : Nat) (v : Value), get ((List.range' k l.length).zip l) t = some v → k ≤ t ∧ l[t - k]? = some v := by
    intro l
    induction l with
    | nil => intro k t v h; simp [get] at h
    | cons x l ih =>
      intro k t v h
      simp only [List.length_cons, List.range'_succ, List.zip_cons_cons, get] at h
      split at h
      · rename_i e; subst e; obtain rfl := Option.some.inj h; exact ⟨Nat.le_refl _, by simp⟩
      · rename_i e
        obtain ⟨h1, h2⟩ := ih (k + 1) t v h
        refine ⟨by omega, ?_⟩
        rw [show t - k = (t - (k + 1)) + 1 by omega]
        simpa using h2
  have hrel : Rel fn.ntmps β ⟨(List.range args.length).zip args, H, n⟩ { tmps := cargs ++ Array.replicate (fn.ntmps - cargs.size) undef, defers := [] } w := by
    refine ⟨rfl, by simp; omega, fun t v ht => ?_, hs, hfresh⟩
    rw [List.range_eq_range'] at ht
    obtain ⟨_, h2⟩ := hget args 0 t v ht
    obtain ⟨u, hu, huv⟩ := hargs.get _ _ h2
    refine ⟨u, ?_, VT.of_VA huv⟩
    have hu' : cargs[t]? = some u := by simpa using hu
    have hlt : t < cargs.size := (Array.getElem?_eq_some_iff.mp hu').1
    rw [Array.getElem?_append_left hlt]
    exact hu'
  refine wp_mono (h β _ w hrel) fun e a' w' hp => ?_
  obtain ⟨s', β1, ⟨he, ⟨ρ, r1, r2, r3, r4', r5⟩⟩, hn1, hr1, hg⟩ := hp
  have r4 : ∀ x b, H' x = some b → x < n' ∧ BlkRen ρ n' b (s'.H (ρ x)) := by
    intro x b hx
    rcases r4' x b hx with ⟨g1, g2, g3⟩ | g
    · obtain ⟨l, _, hk⟩ := hs.ok x b g2
      refine ⟨by omega, ?_⟩
      rw [r1 x g1, g3]
      exact BlkRen.old r1 hfresh hn hk
    · exact g
  obtain ⟨u, hu, huv⟩ := resOf_sound (P := P) hr1 r2
  let β' : Names := fun x => if x < n' then β1 (ρ x) else none
  have hβ' : ∀ x, x < n' → β' x = β1 (ρ x) := fun x hx => by simp [β', hx]
  have hend : ∃ u' β', Ending.returned u = .returned u' ∧ VT β' v u' ∧ Sat β' H' w' ∧ (∀ x, n' ≤ x → β' x = none) ∧ Grow n β H w β' H' w' := by
    refine ⟨u, β', rfl, huv.ren hβ' r3, ⟨?_, ?_⟩, fun x hx => by simp [β']; omega, ?_⟩
    · intro x b hx
      obtain ⟨hlt, hbr⟩ := r4 x b hx
      have hok : ∃ l, β1 (ρ x) = some l ∧ ∀ c, s'.H (ρ x) = some c → BlkOk β1 w' l c := by
        cases hH : s'.H (ρ x) with
        | none => rw [hH] at hbr; cases b <;> exact hbr.elim
        | some c => obtain ⟨l, h1, h2⟩ := hr1.sat.ok _ c hH; exact ⟨l, h1, fun d hd => by obtain rfl := Option.some.inj hd; exact h2⟩
      obtain ⟨l, h1, h2⟩ := hok
      exact ⟨l, by rw [hβ' x hlt]; exact h1, (hbr.ok hβ' h2).1⟩
    · intro x y b1 b2 l m hxy hx hy hrw hl hm
      obtain ⟨hltx, hbx⟩ := r4 x b1 hx
      obtain ⟨hlty, hby⟩ := r4 y b2 hy
      have dummy : ∀ (b : Blk) (x : Nat), BlkRen ρ n' b (s'.H (ρ x)) → ∃ c, s'.H (ρ x) = some c ∧ c.rw = b.rw := by
        intro b x hb
        cases hH : s'.H (ρ x) with
        | none => rw [hH] at hb; cases b <;> exact hb.elim
        | some c =>
          refine ⟨c, rfl, ?_⟩
          rw [hH] at hb
          cases b <;> cases c <;> simp only [BlkRen] at hb <;> first | exact hb.elim | (obtain ⟨rfl, _⟩ := hb; rfl)
      obtain ⟨c1, hc1, e1⟩ := dummy b1 x hbx
      obtain ⟨c2, hc2, _⟩ := dummy b2 y hby
      rw [hβ' x hltx] at hl
      rw [hβ' y hlty] at hm
      exact hr1.sat.sep _ _ c1 c2 l m (r5 x y hltx hlty hxy) hc1 hc2 (e1.trans hrw) hl hm
    · have back : ∀ (b : Blk) (x : Nat), BlkRen ρ n' b (s'.H (ρ x)) → ∃ c, s'.H (ρ x) = some c ∧ c.rw = b.rw := by
        intro b x hb
        cases hH : s'.H (ρ x) with
        | none => rw [hH] at hb; cases b <;> exact hb.elim
        | some c =>
          refine ⟨c, rfl, ?_⟩
          rw [hH] at hb
          cases b <;> cases c <;> simp only [BlkRen] at hb <;> first | exact hb.elim | (obtain ⟨rfl, _⟩ := hb; rfl)
      refine ⟨fun x hx => ?_, hg.os, hg.tape, hg.output, hg.size, hg.keep, ?_, ?_⟩
      · rw [hβ' x (by omega), r1 x hx]; exact hg.names x hx
      · rintro k ⟨x, b, l, hx, hrw, hl, rfl⟩
        obtain ⟨hlt, hbr⟩ := r4 x b hx
        rw [hβ' x hlt] at hl
        obtain ⟨c, hc, ec⟩ := back b x hbr
        refine hg.own _ ⟨ρ x, c, l, hc, ?_, hl, rfl⟩
        rcases hrw with g | g
        · exact .inl (ec.trans g)
        · refine .inr ?_
          rcases Nat.lt_or_ge (ρ x) n with e | e
          · exact absurd (by rw [r1 _ e]) (r5 (ρ x) x (by omega) hlt (by omega))
          · exact e
      · intro x hx h2
        cases hxb : H' x with
        | none => exact absurd hxb h2
        | some b =>
          obtain ⟨hlt, hbr⟩ := r4 x b hxb
          obtain ⟨c, hc, _⟩ := back b x hbr
          rw [r1 x hx] at hc
          exact hg.dom x hx (by rw [hc]; simp)
  rcases he with rfl | rfl
  · exact ⟨hr1.defers, u, hu, hend⟩
  · exact ⟨hr1.defers, u, hu, hend⟩

end Go.Sep
