/- Regions whose order the machine draws: verified once, in the order of the text, with what may not be disturbed looked at. -/
import Derived.Test.YtkfhblkjllbejaaRegion
namespace Go.Sep
open Go
set_option linter.unusedVariables false
set_option linter.unusedSimpArgs false

variable {P : Program}

/-! ### States mixed out of a run in the order of the text -/

section mixing
variable {κ α : Type}

open Classical in
/-- What stands at each key where the steps of `T` alone have been taken. -/
noncomputable def mix (S : Nat → κ → α) (dom : Nat → κ → Prop) (T : Nat → Prop) : Nat → κ → α
  | 0 => S 0
  | p + 1 => fun k => if T p ∧ dom p k then S (p + 1) k else mix S dom T p k

variable {S : Nat → κ → α} {dom : Nat → κ → Prop} {T : Nat → Prop}

theorem mix_need {m j : Nat} {k : κ} (hS : ∀ p, p < m → ¬ dom p k → S (p + 1) k = S p k) (hj : j < m) (hT : ¬ T j)
    (h1 : ∀ p, p < j → dom p k → T p) (h2 : ∀ p, j < p → p < m → dom p k → ¬ T p) : mix S dom T m k = S j k := by
  have up : ∀ p, p ≤ j → mix S dom T p k = S p k := by
    intro p
    induction p with
    | zero => intro _; rfl
    | succ p ih =>
      intro hp
      simp only [mix]
      by_cases hd : dom p k
      · rw [if_pos ⟨h1 p (by omega) hd, hd⟩]
      · rw [if_neg (fun h => hd h.2), ih (by omega), hS p (by omega) hd]
  have down : ∀ q, j + q ≤ m → mix S dom T (j + q) k = S j k := by
    intro q
    induction q with
    | zero => intro _; exact up j (Nat.le_refl _)
    | succ q ih =>
      intro hq
      show mix S dom T (j + q + 1) k = S j k
      simp only [mix]
      rw [if_neg, ih (by omega)]
      rintro ⟨ht, hd⟩
      by_cases e : q = 0
      · subst e; exact hT ht
      · exact h2 (j + q) (by omega) (by omega) hd ht
  have := down (m - j) (by omega)
  rwa [show j + (m - j) = m by omega] at this

open Classical in
theorem mix_add {m j : Nat} {k : κ} (hj : j < m) (h2 : ∀ p, j < p → p < m → dom p k → dom j k → ¬ T p) (hT : ¬ T j) :
    mix S dom (fun i => T i ∨ i = j) m k = if dom j k then S (j + 1) k else mix S dom T m k := by
  have up : ∀ p, p ≤ j → mix S dom (fun i => T i ∨ i = j) p k = mix S dom T p k := by
    intro p
    induction p with
    | zero => intro _; rfl
    | succ p ih =>
      intro hp
      simp only [mix]
      rw [ih (by omega)]
      by_cases h : T p ∧ dom p k
      · rw [if_pos h, if_pos ⟨.inl h.1, h.2⟩]
      · rw [if_neg h, if_neg (fun hh => h ⟨hh.1.resolve_right (by omega), hh.2⟩)]
  have down : ∀ q, j + 1 + q ≤ m → mix S dom (fun i => T i ∨ i = j) (j + 1 + q) k = if dom j k then S (j + 1) k else mix S dom T (j + 1 + q) k := by
    intro q
    induction q with
    | zero =>
      intro _
      show mix S dom (fun i => T i ∨ i = j) (j + 1) k = if dom j k then S (j + 1) k else mix S dom T (j + 1) k
      simp only [mix]
      by_cases hd : dom j k
      · rw [if_pos ⟨.inr (by trivial), hd⟩, if_pos hd]
      · rw [if_neg (fun h => hd h.2), if_neg hd, if_neg (fun h => hd h.2), up j (Nat.le_refl _)]
    | succ q ih =>
      intro hq
      show mix S dom (fun i => T i ∨ i = j) (j + 1 + q + 1) k = if dom j k then S (j + 1) k else mix S dom T (j + 1 + q + 1) k
      simp only [mix]
      rw [ih (by omega)]
      by_cases hd : dom j k
      · rw [if_pos hd, if_pos hd, if_neg]
        rintro ⟨ht, hp⟩
        exact h2 (j + 1 + q) (by omega) (by omega) hp hd (ht.resolve_right (by omega))
      · rw [if_neg hd, if_neg hd]
        by_cases h : T (j + 1 + q) ∧ dom (j + 1 + q) k
        · rw [if_pos h, if_pos ⟨.inl h.1, h.2⟩]
        · rw [if_neg h, if_neg (fun hh => h ⟨hh.1.resolve_right (by omega), hh.2⟩)]
  have := down (m - (j + 1)) (by omega)
  rwa [show j + 1 + (m - (j + 1)) = m by omega] at this

theorem mix_all {m : Nat} {k : κ} (hS : ∀ p, p < m → ¬ dom p k → S (p + 1) k = S p k) (h : ∀ p, p < m → T p) : mix S dom T m k = S m k := by
  have : ∀ p, p ≤ m → mix S dom T p k = S p k := by
    intro p
    induction p with
    | zero => intro _; rfl
    | succ p ih =>
      intro hp
      simp only [mix]
      by_cases hd : dom p k
      · rw [if_pos ⟨h p (by omega), hd⟩]
      · rw [if_neg (fun h => hd h.2), ih (by omega), hS p (by omega) hd]
  exact this m (Nat.le_refl _)

theorem mix_none {m : Nat} {k : κ} (h : ∀ p, p < m → ¬ T p) : mix S dom T m k = S 0 k := by
  induction m with
  | zero => rfl
  | succ m ih =>
    simp only [mix]
    rw [if_neg (fun hh => h m (by omega) hh.1), ih fun p hp => h p (by omega)]

end mixing

/-! ### Which operations are ordered -/

def depsOf (o : Oper) : List Nat := (o.after.toList.filter (Region.binds .any)).map (·.on)

def maskOf (acc : List Nat) (o : Oper) : Nat := (depsOf o).foldl (fun s d => s ||| 2 ^ d ||| acc.getD d 0) 0

def masksFrom : List Oper → List Nat → List Nat
  | [], acc => acc
  | o :: r, acc => masksFrom r (acc ++ [maskOf acc o])

def apartAll (ops : Array Oper) (o : Oper) (mask : Nat) : List Oper → Nat → Bool
  | [], _ => true
  | q :: r, i => (mask.testBit i || q.apart ops o) && apartAll ops o mask r (i + 1)

def staticFrom (ops : Array Oper) : List Oper → List Nat → List Oper → Bool
  | [], _, _ => true
  | o :: r, m :: ms, past => (depsOf o).all (· < past.length) && apartAll ops o m past 0 && staticFrom ops r ms (past ++ [o])
  | _ :: _, [], _ => false

/-- What is looked at of a region once for all. -/
def staticOk (ops : Array Oper) (ms : List Nat) : Bool := masksFrom ops.toList [] == ms && staticFrom ops ops.toList ms []

theorem maskOf_bit {T : Nat → Prop} {acc : List Nat} {o : Oper} (hd : ∀ d ∈ depsOf o, T d) (hacc : ∀ d, T d → ∀ i, (acc.getD d 0).testBit i = true → T i) {i : Nat}
    (h : (maskOf acc o).testBit i = true) : T i := by
  unfold maskOf at h
  have : ∀ (l : List Nat) (s : Nat), (∀ d ∈ l, T d) → (∀ i, s.testBit i = true → T i) → ∀ i, (l.foldl (fun s d => s ||| 2 ^ d ||| acc.getD d 0) s).testBit i = true → T i := by
    intro l
    induction l with
    | nil => intro s _ hs i hi; exact hs i hi
    | cons d l ih =>
      intro s hl hs i hi
      refine ih _ (fun e he => hl e (by simp [he])) (fun q hq => ?_) i hi
      rw [Nat.testBit_or, Nat.testBit_or, Bool.or_eq_true, Bool.or_eq_true] at hq
      rcases hq with (hq | hq) | hq
      · exact hs q hq
      · rw [Nat.testBit_two_pow] at hq
        have : d = q := by simpa using hq
        exact this ▸ hl d (by simp)
      · exact hacc d (hl d (by simp)) q hq
  exact this _ 0 hd (by simp) i h

/-- A set that bears with each operation what must come before it bears all that is ordered before it. -/
theorem masks_closed {T : Nat → Prop} (all : List Oper) (hT : ∀ j o, all[j]? = some o → T j → ∀ d ∈ depsOf o, T d) : ∀ (r : List Oper) (p : Nat) (acc : List Nat), all.drop p = r → acc.length = p →
    (∀ j o, j < p → all[j]? = some o → (∀ d ∈ depsOf o, T d) → ∀ i, (acc.getD j 0).testBit i = true → T i) →
    ∀ j o, all[j]? = some o → (∀ d ∈ depsOf o, T d) → ∀ i, ((masksFrom r acc).getD j 0).testBit i = true → T i
  | [], p, acc, hr, hl, hacc, j, o, ho, hd, i, hi => by
    have hp : all.length ≤ p := by simpa using hr
    have hj : j < all.length := (List.getElem?_eq_some_iff.mp ho).1
    exact hacc j o (by omega) ho hd i hi
  | q :: r, p, acc, hr, hl, hacc, j, o, ho, hd, i, hi => by
    have hq : all[p]? = some q := by
      have := congrArg (·[0]?) hr
      simpa [List.getElem?_drop] using this
    have hr' : all.drop (p + 1) = r := by rw [← List.drop_drop, hr]; rfl
    refine masks_closed all hT r (p + 1) (acc ++ [maskOf acc q]) hr' (by simp [hl]) ?_ j o ho hd i hi
    intro j' o' hj' ho' hd' i' hi'
    by_cases e : j' = p
    · subst e
      rw [hq] at ho'
      obtain rfl := Option.some.inj ho'
      rw [List.getD_eq_getElem?_getD, List.getElem?_append_right (by omega), hl] at hi'
      simp at hi'
      refine maskOf_bit hd' (fun d hTd i hi => ?_) hi'
      by_cases hdp : d < acc.length
      · have hdl : d < all.length := by
          have : j' < all.length := (List.getElem?_eq_some_iff.mp hq).1
          omega
        exact hacc d all[d] (by omega) (List.getElem?_eq_getElem hdl) (hT d _ (List.getElem?_eq_getElem hdl) hTd) i hi
      · rw [List.getD_eq_getElem?_getD, List.getElem?_eq_none (by omega)] at hi
        simp at hi
    · rw [List.getD_eq_getElem?_getD, List.getElem?_append_left (by omega), ← List.getD_eq_getElem?_getD] at hi'
      exact hacc j' o' (by omega) ho' hd' i' hi'

theorem apartAll_get {ops : Array Oper} {o : Oper} {m : Nat} : ∀ {past : List Oper} {k : Nat}, apartAll ops o m past k = true → ∀ i q, past[i]? = some q → m.testBit (k + i) = true ∨ q.apart ops o = true
  | [], k, _, i, q, hq => by simp at hq
  | x :: past, k, h, i, q, hq => by
    simp only [apartAll, Bool.and_eq_true, Bool.or_eq_true] at h
    cases i with
    | zero => simp at hq; subst hq; exact h.1
    | succ i =>
      simp at hq
      have := apartAll_get h.2 i q hq
      rwa [show k + 1 + i = k + (i + 1) by omega] at this

theorem staticFrom_get {ops : Array Oper} (all : List Oper) (ms : List Nat) : ∀ (r : List Oper) (p : Nat), all.drop p = r → staticFrom ops r (ms.drop p) (all.take p) = true →
    ∀ j o, p ≤ j → all[j]? = some o → (∀ d ∈ depsOf o, d < j) ∧ ∀ i q, i < j → all[i]? = some q → (ms.getD j 0).testBit i = true ∨ q.apart ops o = true
  | [], p, hr, _, j, o, hj, ho => by
    have hp : all.length ≤ p := by simpa using hr
    have := (List.getElem?_eq_some_iff.mp ho).1
    omega
  | q :: r, p, hr, h, j, o, hj, ho => by
    have hq : all[p]? = some q := by
      have := congrArg (·[0]?) hr
      simpa [List.getElem?_drop] using this
    have hpl : p < all.length := (List.getElem?_eq_some_iff.mp hq).1
    have hr' : all.drop (p + 1) = r := by rw [← List.drop_drop, hr]; rfl
    cases hms : ms.drop p with
    | nil => rw [hms] at h; simp [staticFrom] at h
    | cons m ms' =>
      rw [hms] at h
      have hm : ms.getD p 0 = m := by
        have := congrArg (·[0]?) hms
        simp [List.getElem?_drop] at this
        rw [List.getD_eq_getElem?_getD, this]; rfl
      have hms' : ms.drop (p + 1) = ms' := by rw [← List.drop_drop, hms]; rfl
      simp only [staticFrom, Bool.and_eq_true] at h
      obtain ⟨⟨h1, h2⟩, h3⟩ := h
      have htake : (all.take p).length = p := by simp; omega
      by_cases e : j = p
      · subst e
        rw [hq] at ho
        obtain rfl := Option.some.inj ho
        refine ⟨fun d hd => ?_, fun i x hi hx => ?_⟩
        · have := List.all_eq_true.mp h1 d hd
          rw [htake] at this
          simpa using this
        · have := apartAll_get h2 i x (by rw [List.getElem?_take, if_pos hi]; exact hx)
          rw [hm]
          simpa using this
      · refine staticFrom_get all ms r (p + 1) hr' ?_ j o (by omega) ho
        rw [hms', List.take_add_one, hq]
        exact h3

/-! ### A region's run in the order of the text -/

inductive Foot where
  | pure
  | load (x : Nat)
  | new (x : Nat)
  | eff (lo hi : Nat) (muts : List Nat)

/-- May the two be taken in either order? -/
def compat : Foot → Foot → Prop
  | .load x, .eff _ _ muts => x ∉ muts
  | .new x, .load y => y ≠ x
  | .new x, .eff _ _ muts => x ∉ muts
  | .eff lo hi muts, .load y => (y < lo ∨ hi ≤ y) ∧ y ∉ muts
  | .eff _ _ _, .eff _ _ _ => False
  | _, _ => True

def hidden (m : Nat) : List (Nat × Foot) → List Nat
  | [] => []
  | (i, .new x) :: r => if m.testBit i then hidden m r else x :: hidden m r
  | _ :: r => hidden m r

def accOk (m : Nat) (f : Foot) : List (Nat × Foot) → Prop
  | [] => True
  | (i, g) :: r => (m.testBit i = true ∨ compat g f) ∧ accOk m f r

def hide (U : List Nat) (n : Nat) (H : Heap) : Heap := fun y => if y < n ∧ y ∉ U then H y else none
def unhide (U : List Nat) (n1 : Nat) (H H1 : Heap) : Heap := fun y => if y < n1 ∧ y ∉ U then H1 y else H y

/-- What an operation does to the heap. -/
def kindOf (o : Op) (ts : Temps) : Foot :=
  match o with
  | .load _ x => match ev ts x with
    | some (.pointer (some p)) => .load p.block
    | _ => .pure
  | .slice _ x _ _ _ => match ev ts x with
    | some (.pointer (some p)) => .load p.block
    | _ => .pure
  | .lookup _ x _ _ => match ev ts x with
    | some (.map (some r)) => .load r
    | _ => .pure
  | .alloc _ | .box _ _ | .buildSlice _ _ _ | .makeSlice _ _ _ | .makeMap _ _ => .new 0
  | .store _ _ _ | .mapUpdate _ _ _ _ | .insert _ _ _ _ => .eff 0 0 []
  | .call c => match c.callee with
    | .builtin .len | .builtin .max | .builtin .min => .pure
    | _ => .eff 0 0 []
  | _ => .pure

def wopsD (P : Program) (N : Nat) (ops : Array Oper) : List Oper → List Nat → Nat → List (Nat × Foot) → St → (St → Prop) → Prop
  | [], _, _, _, s, K => K s
  | o :: r, m :: ms, j, acc, s, K => okDst N o.dst = true ∧ match wantC ops o s.ts with
    | some false => wopsD P N ops r ms (j + 1) acc ⟨putT s.ts o.dst (.tuple #[]), s.H, s.n⟩ K
    | some true => match kindOf o.op s.ts with
      | .pure => match cop P o.op s.ts s.H s.n with
        | some (v, _, _) => wopsD P N ops r ms (j + 1) acc ⟨putT s.ts o.dst v, s.H, s.n⟩ K
        | none => False
      | .load x => (x < s.n ∧ accOk m (.load x) acc) ∧ match cop P o.op s.ts s.H s.n with
        | some (v, _, _) => wopsD P N ops r ms (j + 1) ((j, .load x) :: acc) ⟨putT s.ts o.dst v, s.H, s.n⟩ K
        | none => False
      | .new _ => match cop P o.op s.ts s.H s.n with
        | some (v, H', _) => wopsD P N ops r ms (j + 1) ((j, .new s.n) :: acc) ⟨putT s.ts o.dst v, H', s.n + 1⟩ K
        | none => False
      | .eff _ _ _ => ∃ muts, (∀ y ∈ muts, y < s.n ∧ y ∉ hidden m acc) ∧ stepOp P o.op ⟨s.ts, hide (hidden m acc) s.n s.H, s.n⟩ fun v H1 n1 =>
          s.n ≤ n1 ∧ (∀ y, y < s.n → y ∉ muts → y ∉ hidden m acc → H1 y = s.H y) ∧ accOk m (.eff s.n n1 muts) acc ∧
            wopsD P N ops r ms (j + 1) ((j, .eff s.n n1 muts) :: acc) ⟨putT s.ts o.dst v, unhide (hidden m acc) n1 s.H H1, n1⟩ K
    | none => False
  | _ :: _, [], _, _, _, _ => False

open Classical in
noncomputable def restr (need : Nat → Prop) (H : Heap) : Heap := fun y => if need y then H y else none

structure Loc1 (P : Program) (N : Nat) (ops : Array Oper) (o : Oper) (s s' : St) (need dom : Nat → Prop) : Prop where
  d : okDst N o.dst = true
  n : s.n ≤ s'.n
  step : ∃ v H1, s'.ts = putT s.ts o.dst v ∧
    ((wantC ops o s.ts = some true ∧ stepOp P o.op ⟨s.ts, restr need s.H, s.n⟩ fun v' H' n' => v' = v ∧ H' = H1 ∧ n' = s'.n) ∨
      (wantC ops o s.ts = some false ∧ v = .tuple #[] ∧ H1 = restr need s.H ∧ s'.n = s.n)) ∧
    (∀ y, ¬ dom y → s'.H y = s.H y) ∧ (∀ y, dom y → s'.H y = H1 y) ∧ (∀ y, need y → ¬ dom y → H1 y = s.H y)
  needlt : ∀ y, need y → y < s.n
  domlt : ∀ y, dom y → y < s'.n ∧ (y < s.n → need y)

def Disj (n1 d1 n2 d2 : Nat → Prop) : Prop := ∀ y, ¬ (d1 y ∧ d2 y) ∧ ¬ (n1 y ∧ d2 y) ∧ ¬ (d1 y ∧ n2 y)

def needF : Foot → Nat → Prop
  | .load x, y => y = x
  | .eff lo _ _, y => y < lo
  | _, _ => False
def domF : Foot → Nat → Prop
  | .new x, y => y = x
  | .eff lo hi muts, y => (lo ≤ y ∧ y < hi) ∨ y ∈ muts
  | _, _ => False

def FootWf (n : Nat) : Foot → Prop
  | .pure => True
  | .load x => x < n
  | .new x => x < n
  | .eff lo hi muts => lo ≤ hi ∧ hi ≤ n ∧ ∀ y ∈ muts, y < lo

theorem FootWf.mono {n n' : Nat} {f : Foot} (h : FootWf n f) (hn : n ≤ n') : FootWf n' f := by
  cases f <;> simp only [FootWf] at h ⊢
  · omega
  · omega
  · exact ⟨h.1, by omega, h.2.2⟩

/-! #### the kinds' laws -/

theorem cop_pure {o : Op} {ts : Temps} {H H' : Heap} {n n' : Nat} {v : Value} (hk : kindOf o ts = .pure) (h : cop P o ts H n = some (v, H', n')) :
    H' = H ∧ n' = n ∧ ∀ G, cop P o ts G n = some (v, G, n) := by
  have key : ∀ x : Option Value, withH H n x = some (v, H', n') → H' = H ∧ n' = n ∧ ∀ G, withH G n x = some (v, G, n) := by
    intro x hx
    obtain ⟨h1, h2, h3⟩ := withH_some hx
    exact ⟨h2, h3, fun G => by rw [h1]; rfl⟩
  unfold cop at h
  split at h <;> simp only [kindOf] at hk <;> (try (exact key _ h))
  case h_3 =>
    split at h
    · rename_i hc; simp only [cop, hc]; exact key _ h
    · rename_i hc; simp only [cop, hc]; exact key _ h
    · simp at h
  case h_4 => simp at hk
  case h_5 => simp at hk
  case h_6 =>
    split at h
    · rename_i hc
      split at h
      · rename_i hc2; simp only [cop, hc, hc2, if_true]; exact key _ h
      · simp at h
    · simp at h
  case h_7 => simp at hk
  case h_8 t x =>
    obtain ⟨h1, h2, h3⟩ := withH_some h
    obtain ⟨u, hu, h4⟩ := ev1_some h1
    rw [hu] at hk
    cases u <;> simp [cLoad] at h4
    rename_i p
    cases p <;> simp at h4
    simp at hk
  case h_9 => simp at hk
  case h_14 =>
    split at h
    · rename_i h1 h2; simp only [cop, h1, h2]; exact key _ h
    · simp at h
  case h_15 => simp at hk
  case h_16 t x lo hi mx =>
    split at h
    case h_2 => simp at h
    case h_1 l hh m hl hhh hm =>
      simp only [cop, hl, hhh, hm]
      obtain ⟨h1, h2, h3⟩ := withH_some h
      obtain ⟨u, hu, h4⟩ := ev1_some h1
      rw [hu] at hk
      refine ⟨h2, h3, fun G => ?_⟩
      have : cSlice P t G u l hh m = some v := by
        unfold cSlice at h4 ⊢
        split at h4
        case h_2 => simp at h4
        case h_1 T hT =>
          split at h4
          case h_3 n e p hp => simp at hk
          case h_1 => exact h4
          case h_2 => exact h4
          case h_4 => simp at h4
      simp [ev1, hu, this, withH]
  case h_22 c =>
    split at h
    case h_2 => simp at h
    case h_1 b hb =>
      simp only [cop, hb]
      unfold cBuiltin at h
      split at h
      · exact key _ h
      · rw [hb] at hk; simp at hk
      · exact key _ h
      · exact key _ h
      · rw [hb] at hk; simp at hk
      · simp at h
  case h_23 => simp at hk
  case h_24 t x i ok =>
    obtain ⟨h1, h2, h3⟩ := withH_some h
    obtain ⟨u, q, hu, hq, h4⟩ := ev2_some h1
    rw [hu] at hk
    refine ⟨h2, h3, fun G => ?_⟩
    simp only [cop, ev2, hu, hq]
    rw [cLookup_congr (H := H) fun r hr => by rw [hr] at hk; simp at hk, h4]; rfl
  case h_25 => simp at hk
  case h_26 => simp at hk
  case h_27 => simp at h

theorem cSlice_congr {t : TypeId} {G H : Heap} {v : Value} {lo hi mx : Option Value} (h : ∀ p, v = .pointer (some p) → G p.block = H p.block) : cSlice P t G v lo hi mx = cSlice P t H v lo hi mx := by
  unfold cSlice
  split
  · split
    · rfl
    · rfl
    · rw [h _ rfl]
    · rfl
  · rfl

theorem cop_load {o : Op} {ts : Temps} {H H' : Heap} {n n' x : Nat} {v : Value} (hk : kindOf o ts = .load x) (h : cop P o ts H n = some (v, H', n')) :
    H' = H ∧ n' = n ∧ ∀ G, G x = H x → cop P o ts G n = some (v, G, n) := by
  unfold kindOf at hk
  split at hk
  · rename_i t a
    split at hk
    · rename_i p hp
      injection hk with hk
      subst hk
      simp only [cop] at h ⊢
      obtain ⟨h1, h2, h3⟩ := withH_some h
      refine ⟨h2, h3, fun G hG => ?_⟩
      simp only [ev1, hp, cLoad] at h1 ⊢
      rw [hG, h1]; rfl
    · simp at hk
  · rename_i t a lo hi mx
    split at hk
    · rename_i p hp
      injection hk with hk
      subst hk
      simp only [cop] at h ⊢
      split at h
      case h_2 => simp at h
      case h_1 l hh m hl hhh hm =>
        obtain ⟨h1, h2, h3⟩ := withH_some h
        refine ⟨h2, h3, fun G hG => ?_⟩
        simp only [ev1, hp] at h1 ⊢
        rw [cSlice_congr (G := G) (H := H) (fun q hq => by injection hq with hq; injection hq with hq; rw [← hq]; exact hG), h1]; rfl
    · simp at hk
  · rename_i t a i ok
    split at hk
    · rename_i p hp
      injection hk with hk
      subst hk
      simp only [cop] at h ⊢
      obtain ⟨h1, h2, h3⟩ := withH_some h
      refine ⟨h2, h3, fun G hG => ?_⟩
      have : ev2 ts a i (cLookup P t ok G) = ev2 ts a i (cLookup P t ok H) := by
        unfold ev2
        rw [hp]
        split
        · rename_i heq _
          obtain rfl := Option.some.inj heq
          exact cLookup_congr fun r hr => by injection hr with hr; injection hr with hr; subst hr; exact hG
        · rfl
      rw [this, h1]; rfl
    · simp at hk
  all_goals first | (simp at hk; done) | (split at hk <;> simp at hk)

theorem cop_new {o : Op} {ts : Temps} {H H' : Heap} {n n' x : Nat} {v : Value} (hk : kindOf o ts = .new x) (h : cop P o ts H n = some (v, H', n')) :
    n' = n + 1 ∧ ∃ b, H' = H.set n b ∧ ∀ G, cop P o ts G n = some (v, G.set n b, n + 1) := by
  unfold kindOf at hk
  split at hk
  · split at hk <;> simp at hk
  · split at hk <;> simp at hk
  · split at hk <;> simp at hk
  · simp only [cop] at h ⊢
    split at h
    · rename_i T hT
      split at h
      · simp only [Option.some.injEq, Prod.mk.injEq] at h
        obtain ⟨rfl, rfl, rfl⟩ := h
        rename_i hz
        exact ⟨rfl, _, rfl, fun G => by simp only [hT, hz]; rfl⟩
      · simp at h
    · simp at h
  · simp only [cop] at h ⊢
    split at h
    · rename_i u hu
      split at h
      · simp at h
      · rename_i ht
        simp only [Option.some.injEq, Prod.mk.injEq] at h
        obtain ⟨rfl, rfl, rfl⟩ := h
        exact ⟨rfl, _, rfl, fun G => by simp only [hu, ht]; rfl⟩
    · simp at h
  · simp only [cop] at h ⊢
    split at h
    · rename_i vs hvs
      split at h
      · rename_i ht
        simp only [hvs, ht, if_true]
        unfold cBuildSlice at h ⊢
        split at h
        case h_2 => simp at h
        case h_1 T hT =>
          split at h
          case h_2 => simp at h
          case h_1 e he =>
            split at h
            case h_2 => simp at h
            case h_1 E hE =>
              split at h
              case isFalse => simp at h
              case isTrue hc =>
                split at h
                case h_2 => simp at h
                case h_1 cs hcs =>
                  split at h
                  case isFalse => simp at h
                  case isTrue hl =>
                    simp only [Option.some.injEq, Prod.mk.injEq] at h
                    obtain ⟨rfl, rfl, rfl⟩ := h
                    exact ⟨rfl, _, rfl, fun G => by simp only [hT, he, hE, if_pos hc, hcs, if_pos hl]⟩
      · simp at h
    · simp at h
  · simp only [cop] at h ⊢
    split at h
    · rename_i u r hu hr
      unfold cMake at h ⊢
      split at h
      case h_2 => simp at h
      case h_1 a b =>
        split at h
        case h_2 => simp at h
        case h_1 T hT =>
          split at h
          case h_2 => simp at h
          case h_1 e he =>
            split at h
            case h_2 => simp at h
            case h_1 E hE =>
              split at h
              case isFalse => simp at h
              case isTrue hc =>
                simp only [Option.some.injEq, Prod.mk.injEq] at h
                obtain ⟨rfl, rfl, rfl⟩ := h
                exact ⟨rfl, _, rfl, fun G => by simp only [hT, he, hE, if_pos hc]⟩
    · simp at h
  · rename_i t rs
    cases rs with
    | none =>
      simp only [cop, cMakeMap, Option.some.injEq, Prod.mk.injEq] at h ⊢
      obtain ⟨rfl, rfl, rfl⟩ := h
      exact ⟨rfl, _, rfl, fun G => ⟨rfl, rfl, trivial⟩⟩
    | some _ => simp [cop] at h
  all_goals first | (simp at hk; done) | (split at hk <;> simp at hk)

theorem callee_none {o : Op} {ts : Temps} (h : ∀ lo hi m, kindOf o ts ≠ .eff lo hi m) : calleeOf ts o = none := by
  unfold calleeOf
  split
  · rename_i c
    split
    · rename_i f hf
      exact absurd (by simp [kindOf, hf]) (h 0 0 [])
    · rfl
  · rfl

end Go.Sep
