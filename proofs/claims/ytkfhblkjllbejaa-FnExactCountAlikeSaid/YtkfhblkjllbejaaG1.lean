/- Shared texts of the proofs: Draw, Draw2, Draw3, Draw4, Walk, Top, Step, Cells, Math, Bits, Appn. -/
import Derived.Test.YtkfhblkjllbejaaG0
import Derived.OpenShut
import Derived.ChangeOld
import Derived.WideShapes
/- Regions whose order the machine draws: verified once, in the order of the text, with what may not be disturbed looked at. -/
namespace Go.Sep
open Go
set_option linter.unusedVariables false
set_option linter.unusedSimpArgs false

variable {P : Program}

/-! ### States mixed out of a run in the order of the text -/

section mixing
variable {κ α : Type}

open Classical in
/-- What stands at each key where the steps of `T` alone have been taken. -/
noncomputable def mix (S : Nat → κ → α) (dom : Nat → κ → Prop) (T : Nat → Prop) : Nat → κ → α
  | 0 => S 0
  | p + 1 => fun k => if T p ∧ dom p k then S (p + 1) k else mix S dom T p k

variable {S : Nat → κ → α} {dom : Nat → κ → Prop} {T : Nat → Prop}

theorem mix_need {m j : Nat} {k : κ} (hS : ∀ p, p < m → ¬ dom p k → S (p + 1) k = S p k) (hj : j < m) (hT : ¬ T j)
    (h1 : ∀ p, p < j → dom p k → T p) (h2 : ∀ p, j < p → p < m → dom p k → ¬ T p) : mix S dom T m k = S j k := by
  have up : ∀ p, p ≤ j → mix S dom T p k = S p k := by
    intro p
    induction p with
    | zero => intro _; rfl
    | succ p ih =>
      intro hp
      simp only [mix]
      by_cases hd : dom p k
      · rw [if_pos ⟨h1 p (by omega) hd, hd⟩]
      · rw [if_neg (fun h => hd h.2), ih (by omega), hS p (by omega) hd]
  have down : ∀ q, j + q ≤ m → mix S dom T (j + q) k = S j k := by
    intro q
    induction q with
    | zero => intro _; exact up j (Nat.le_refl _)
    | succ q ih =>
      intro hq
      show mix S dom T (j + q + 1) k = S j k
      simp only [mix]
      rw [if_neg, ih (by omega)]
      rintro ⟨ht, hd⟩
      by_cases e : q = 0
      · subst e; exact hT ht
      · exact h2 (j + q) (by omega) (by omega) hd ht
  have := down (m - j) (by omega)
  rwa [show j + (m - j) = m by omega] at this

open Classical in
theorem mix_add {m j : Nat} {k : κ} (hj : j < m) (h2 : ∀ p, j < p → p < m → dom p k → dom j k → ¬ T p) (hT : ¬ T j) :
    mix S dom (fun i => T i ∨ i = j) m k = if dom j k then S (j + 1) k else mix S dom T m k := by
  have up : ∀ p, p ≤ j → mix S dom (fun i => T i ∨ i = j) p k = mix S dom T p k := by
    intro p
    induction p with
    | zero => intro _; rfl
    | succ p ih =>
      intro hp
      simp only [mix]
      rw [ih (by omega)]
      by_cases h : T p ∧ dom p k
      · rw [if_pos h, if_pos ⟨.inl h.1, h.2⟩]
      · rw [if_neg h, if_neg (fun hh => h ⟨hh.1.resolve_right (by omega), hh.2⟩)]
  have down : ∀ q, j + 1 + q ≤ m → mix S dom (fun i => T i ∨ i = j) (j + 1 + q) k = if dom j k then S (j + 1) k else mix S dom T (j + 1 + q) k := by
    intro q
    induction q with
    | zero =>
      intro _
      show mix S dom (fun i => T i ∨ i = j) (j + 1) k = if dom j k then S (j + 1) k else mix S dom T (j + 1) k
      simp only [mix]
      by_cases hd : dom j k
      · rw [if_pos ⟨.inr (by trivial), hd⟩, if_pos hd]
      · rw [if_neg (fun h => hd h.2), if_neg hd, if_neg (fun h => hd h.2), up j (Nat.le_refl _)]
    | succ q ih =>
      intro hq
      show mix S dom (fun i => T i ∨ i = j) (j + 1 + q + 1) k = if dom j k then S (j + 1) k else mix S dom T (j + 1 + q + 1) k
      simp only [mix]
      rw [ih (by omega)]
      by_cases hd : dom j k
      · rw [if_pos hd, if_pos hd, if_neg]
        rintro ⟨ht, hp⟩
        exact h2 (j + 1 + q) (by omega) (by omega) hp hd (ht.resolve_right (by omega))
      · rw [if_neg hd, if_neg hd]
        by_cases h : T (j + 1 + q) ∧ dom (j + 1 + q) k
        · rw [if_pos h, if_pos ⟨.inl h.1, h.2⟩]
        · rw [if_neg h, if_neg (fun hh => h ⟨hh.1.resolve_right (by omega), hh.2⟩)]
  have := down (m - (j + 1)) (by omega)
  rwa [show j + 1 + (m - (j + 1)) = m by omega] at this

theorem mix_all {m : Nat} {k : κ} (hS : ∀ p, p < m → ¬ dom p k → S (p + 1) k = S p k) (h : ∀ p, p < m → T p) : mix S dom T m k = S m k := by
  have : ∀ p, p ≤ m → mix S dom T p k = S p k := by
    intro p
    induction p with
    | zero => intro _; rfl
    | succ p ih =>
      intro hp
      simp only [mix]
      by_cases hd : dom p k
      · rw [if_pos ⟨h p (by omega), hd⟩]
      · rw [if_neg (fun h => hd h.2), ih (by omega), hS p (by omega) hd]
  exact this m (Nat.le_refl _)

theorem mix_none {m : Nat} {k : κ} (h : ∀ p, p < m → ¬ T p) : mix S dom T m k = S 0 k := by
  induction m with
  | zero => rfl
  | succ m ih =>
    simp only [mix]
    rw [if_neg (fun hh => h m (by omega) hh.1), ih fun p hp => h p (by omega)]

end mixing

/-! ### Which operations are ordered -/

def depsOf (o : Oper) : List Nat := (o.after.toList.filter (Region.binds .any)).map (·.on)

def maskOf (acc : List Nat) (o : Oper) : Nat := (depsOf o).foldl (fun s d => s ||| 2 ^ d ||| acc.getD d 0) 0

def masksFrom : List Oper → List Nat → List Nat
  | [], acc => acc
  | o :: r, acc => masksFrom r (acc ++ [maskOf acc o])

def apartAll (ops : Array Oper) (o : Oper) (mask : Nat) : List Oper → Nat → Bool
  | [], _ => true
  | q :: r, i => (mask.testBit i || q.apart ops o) && apartAll ops o mask r (i + 1)

def staticFrom (ops : Array Oper) : List Oper → List Nat → List Oper → Bool
  | [], _, _ => true
  | o :: r, m :: ms, past => (depsOf o).all (· < past.length) && apartAll ops o m past 0 && staticFrom ops r ms (past ++ [o])
  | _ :: _, [], _ => false

/-- What is looked at of a region once for all. -/
def staticOk (ops : Array Oper) (ms : List Nat) : Bool := masksFrom ops.toList [] == ms && staticFrom ops ops.toList ms []

theorem maskOf_bit {T : Nat → Prop} {acc : List Nat} {o : Oper} (hd : ∀ d ∈ depsOf o, T d) (hacc : ∀ d, T d → ∀ i, (acc.getD d 0).testBit i = true → T i) {i : Nat}
    (h : (maskOf acc o).testBit i = true) : T i := by
  unfold maskOf at h
  have : ∀ (l : List Nat) (s : Nat), (∀ d ∈ l, T d) → (∀ i, s.testBit i = true → T i) → ∀ i, (l.foldl (fun s d => s ||| 2 ^ d ||| acc.getD d 0) s).testBit i = true → T i := by
    intro l
    induction l with
    | nil => intro s _ hs i hi; exact hs i hi
    | cons d l ih =>
      intro s hl hs i hi
      refine ih _ (fun e he => hl e (by simp [he])) (fun q hq => ?_) i hi
      rw [Nat.testBit_or, Nat.testBit_or, Bool.or_eq_true, Bool.or_eq_true] at hq
      rcases hq with (hq | hq) | hq
      · exact hs q hq
      · rw [Nat.testBit_two_pow] at hq
        have : d = q := by simpa using hq
        exact this ▸ hl d (by simp)
      · exact hacc d (hl d (by simp)) q hq
  exact this _ 0 hd (by simp) i h

/-- A set that bears with each operation what must come before it bears all that is ordered before it. -/
theorem masks_closed {T : Nat → Prop} (all : List Oper) (hT : ∀ j o, all[j]? = some o → T j → ∀ d ∈ depsOf o, T d) : ∀ (r : List Oper) (p : Nat) (acc : List Nat), all.drop p = r → acc.length = p →
    (∀ j o, j < p → all[j]? = some o → (∀ d ∈ depsOf o, T d) → ∀ i, (acc.getD j 0).testBit i = true → T i) →
    ∀ j o, all[j]? = some o → (∀ d ∈ depsOf o, T d) → ∀ i, ((masksFrom r acc).getD j 0).testBit i = true → T i
  | [], p, acc, hr, hl, hacc, j, o, ho, hd, i, hi => by
    have hp : all.length ≤ p := by simpa using hr
    have hj : j < all.length := (List.getElem?_eq_some_iff.mp ho).1
    exact hacc j o (by omega) ho hd i hi
  | q :: r, p, acc, hr, hl, hacc, j, o, ho, hd, i, hi => by
    have hq : all[p]? = some q := by
      have := congrArg (·[0]?) hr
      simpa [List.getElem?_drop] using this
    have hr' : all.drop (p + 1) = r := by rw [← List.drop_drop, hr]; rfl
    refine masks_closed all hT r (p + 1) (acc ++ [maskOf acc q]) hr' (by simp [hl]) ?_ j o ho hd i hi
    intro j' o' hj' ho' hd' i' hi'
    by_cases e : j' = p
    · subst e
      rw [hq] at ho'
      obtain rfl := Option.some.inj ho'
      rw [List.getD_eq_getElem?_getD, List.getElem?_append_right (by omega), hl] at hi'
      simp at hi'
      refine maskOf_bit hd' (fun d hTd i hi => ?_) hi'
      by_cases hdp : d < acc.length
      · have hdl : d < all.length := by
          have : j' < all.length := (List.getElem?_eq_some_iff.mp hq).1
          omega
        exact hacc d all[d] (by omega) (List.getElem?_eq_getElem hdl) (hT d _ (List.getElem?_eq_getElem hdl) hTd) i hi
      · rw [List.getD_eq_getElem?_getD, List.getElem?_eq_none (by omega)] at hi
        simp at hi
    · rw [List.getD_eq_getElem?_getD, List.getElem?_append_left (by omega), ← List.getD_eq_getElem?_getD] at hi'
      exact hacc j' o' (by omega) ho' hd' i' hi'

theorem apartAll_get {ops : Array Oper} {o : Oper} {m : Nat} : ∀ {past : List Oper} {k : Nat}, apartAll ops o m past k = true → ∀ i q, past[i]? = some q → m.testBit (k + i) = true ∨ q.apart ops o = true
  | [], k, _, i, q, hq => by simp at hq
  | x :: past, k, h, i, q, hq => by
    simp only [apartAll, Bool.and_eq_true, Bool.or_eq_true] at h
    cases i with
    | zero => simp at hq; subst hq; exact h.1
    | succ i =>
      simp at hq
      have := apartAll_get h.2 i q hq
      rwa [show k + 1 + i = k + (i + 1) by omega] at this

theorem staticFrom_get {ops : Array Oper} (all : List Oper) (ms : List Nat) : ∀ (r : List Oper) (p : Nat), all.drop p = r → staticFrom ops r (ms.drop p) (all.take p) = true →
    ∀ j o, p ≤ j → all[j]? = some o → (∀ d ∈ depsOf o, d < j) ∧ ∀ i q, i < j → all[i]? = some q → (ms.getD j 0).testBit i = true ∨ q.apart ops o = true
  | [], p, hr, _, j, o, hj, ho => by
    have hp : all.length ≤ p := by simpa using hr
    have := (List.getElem?_eq_some_iff.mp ho).1
    omega
  | q :: r, p, hr, h, j, o, hj, ho => by
    have hq : all[p]? = some q := by
      have := congrArg (·[0]?) hr
      simpa [List.getElem?_drop] using this
    have hpl : p < all.length := (List.getElem?_eq_some_iff.mp hq).1
    have hr' : all.drop (p + 1) = r := by rw [← List.drop_drop, hr]; rfl
    cases hms : ms.drop p with
    | nil => rw [hms] at h; simp [staticFrom] at h
    | cons m ms' =>
      rw [hms] at h
      have hm : ms.getD p 0 = m := by
        have := congrArg (·[0]?) hms
        simp [List.getElem?_drop] at this
        rw [List.getD_eq_getElem?_getD, this]; rfl
      have hms' : ms.drop (p + 1) = ms' := by rw [← List.drop_drop, hms]; rfl
      simp only [staticFrom, Bool.and_eq_true] at h
      obtain ⟨⟨h1, h2⟩, h3⟩ := h
      have htake : (all.take p).length = p := by simp; omega
      by_cases e : j = p
      · subst e
        rw [hq] at ho
        obtain rfl := Option.some.inj ho
        refine ⟨fun d hd => ?_, fun i x hi hx => ?_⟩
        · have := List.all_eq_true.mp h1 d hd
          rw [htake] at this
          simpa using this
        · have := apartAll_get h2 i x (by rw [List.getElem?_take, if_pos hi]; exact hx)
          rw [hm]
          simpa using this
      · refine staticFrom_get all ms r (p + 1) hr' ?_ j o (by omega) ho
        rw [hms', List.take_add_one, hq]
        exact h3

/-! ### A region's run in the order of the text -/

inductive Foot where
  | pure
  | load (x : Nat)
  | new (x : Nat)
  | eff (lo hi : Nat) (muts : List Nat)

/-- May the two be taken in either order? -/
def compat : Foot → Foot → Prop
  | .load x, .eff _ _ muts => x ∉ muts
  | .new x, .load y => y ≠ x
  | .new x, .eff _ _ muts => x ∉ muts
  | .eff lo hi muts, .load y => (y < lo ∨ hi ≤ y) ∧ y ∉ muts
  | .eff _ _ _, .eff _ _ _ => False
  | _, _ => True

def hidden (m : Nat) : List (Nat × Foot) → List Nat
  | [] => []
  | (i, .new x) :: r => if m.testBit i then hidden m r else x :: hidden m r
  | _ :: r => hidden m r

def accOk (m : Nat) (f : Foot) : List (Nat × Foot) → Prop
  | [] => True
  | (i, g) :: r => (m.testBit i = true ∨ compat g f) ∧ accOk m f r

def hide (U : List Nat) (n : Nat) (H : Heap) : Heap := fun y => if y < n ∧ y ∉ U then H y else none
def unhide (U : List Nat) (n1 : Nat) (H H1 : Heap) : Heap := fun y => if y < n1 ∧ y ∉ U then H1 y else H y

/-- What an operation does to the heap. -/
def kindOf (o : Op) (ts : Temps) : Foot :=
  match o with
  | .load _ x => match ev ts x with
    | some (.pointer (some p)) => .load p.block
    | _ => .pure
  | .slice _ x _ _ _ => match ev ts x with
    | some (.pointer (some p)) => .load p.block
    | _ => .pure
  | .lookup _ x _ _ => match ev ts x with
    | some (.map (some r)) => .load r
    | _ => .pure
  | .alloc _ | .box _ _ | .buildSlice _ _ _ | .makeSlice _ _ _ | .makeMap _ _ => .new 0
  | .store _ _ _ | .mapUpdate _ _ _ _ | .insert _ _ _ _ => .eff 0 0 []
  | .call c => match c.callee with
    | .builtin .len | .builtin .max | .builtin .min => .pure
    | _ => .eff 0 0 []
  | _ => .pure

def wopsD (P : Program) (N : Nat) (ops : Array Oper) : List Oper → List Nat → Nat → List (Nat × Foot) → St → (St → Prop) → Prop
  | [], _, _, _, s, K => K s
  | o :: r, m :: ms, j, acc, s, K => okDst N o.dst = true ∧ match wantC ops o s.ts with
    | some false => wopsD P N ops r ms (j + 1) acc ⟨putT s.ts o.dst (.tuple #[]), s.H, s.n⟩ K
    | some true => match kindOf o.op s.ts with
      | .pure => match cop P o.op s.ts s.H s.n with
        | some (v, _, _) => wopsD P N ops r ms (j + 1) acc ⟨putT s.ts o.dst v, s.H, s.n⟩ K
        | none => False
      | .load x => (x < s.n ∧ accOk m (.load x) acc) ∧ match cop P o.op s.ts s.H s.n with
        | some (v, _, _) => wopsD P N ops r ms (j + 1) ((j, .load x) :: acc) ⟨putT s.ts o.dst v, s.H, s.n⟩ K
        | none => False
      | .new _ => match cop P o.op s.ts s.H s.n with
        | some (v, H', _) => wopsD P N ops r ms (j + 1) ((j, .new s.n) :: acc) ⟨putT s.ts o.dst v, H', s.n + 1⟩ K
        | none => False
      | .eff _ _ _ => ∃ muts, (∀ y ∈ muts, y < s.n ∧ y ∉ hidden m acc) ∧ stepOp P o.op ⟨s.ts, hide (hidden m acc) s.n s.H, s.n⟩ fun v H1 n1 =>
          s.n ≤ n1 ∧ (∀ y, y < s.n → y ∉ muts → y ∉ hidden m acc → H1 y = s.H y) ∧ accOk m (.eff s.n n1 muts) acc ∧
            wopsD P N ops r ms (j + 1) ((j, .eff s.n n1 muts) :: acc) ⟨putT s.ts o.dst v, unhide (hidden m acc) n1 s.H H1, n1⟩ K
    | none => False
  | _ :: _, [], _, _, _, _ => False

open Classical in
noncomputable def restr (need : Nat → Prop) (H : Heap) : Heap := fun y => if need y then H y else none

structure Loc1 (P : Program) (N : Nat) (ops : Array Oper) (o : Oper) (s s' : St) (need dom : Nat → Prop) : Prop where
  d : okDst N o.dst = true
  n : s.n ≤ s'.n
  step : ∃ v H1, s'.ts = putT s.ts o.dst v ∧
    ((wantC ops o s.ts = some true ∧ stepOp P o.op ⟨s.ts, restr need s.H, s.n⟩ fun v' H' n' => v' = v ∧ H' = H1 ∧ n' = s'.n) ∨
      (wantC ops o s.ts = some false ∧ v = .tuple #[] ∧ H1 = restr need s.H ∧ s'.n = s.n)) ∧
    (∀ y, ¬ dom y → s'.H y = s.H y) ∧ (∀ y, dom y → s'.H y = H1 y) ∧ (∀ y, need y → ¬ dom y → H1 y = s.H y)
  needlt : ∀ y, need y → y < s.n
  domlt : ∀ y, dom y → y < s'.n ∧ (y < s.n → need y)

def Disj (n1 d1 n2 d2 : Nat → Prop) : Prop := ∀ y, ¬ (d1 y ∧ d2 y) ∧ ¬ (n1 y ∧ d2 y) ∧ ¬ (d1 y ∧ n2 y)

def needF : Foot → Nat → Prop
  | .load x, y => y = x
  | .eff lo _ _, y => y < lo
  | _, _ => False
def domF : Foot → Nat → Prop
  | .new x, y => y = x
  | .eff lo hi muts, y => (lo ≤ y ∧ y < hi) ∨ y ∈ muts
  | _, _ => False

def FootWf (n : Nat) : Foot → Prop
  | .pure => True
  | .load x => x < n
  | .new x => x < n
  | .eff lo hi muts => lo ≤ hi ∧ hi ≤ n ∧ ∀ y ∈ muts, y < lo

theorem FootWf.mono {n n' : Nat} {f : Foot} (h : FootWf n f) (hn : n ≤ n') : FootWf n' f := by
  cases f <;> simp only [FootWf] at h ⊢
  · omega
  · omega
  · exact ⟨h.1, by omega, h.2.2⟩

/-! #### the kinds' laws -/

theorem cop_pure {o : Op} {ts : Temps} {H H' : Heap} {n n' : Nat} {v : Value} (hk : kindOf o ts = .pure) (h : cop P o ts H n = some (v, H', n')) :
    H' = H ∧ n' = n ∧ ∀ G, cop P o ts G n = some (v, G, n) := by
  have key : ∀ x : Option Value, withH H n x = some (v, H', n') → H' = H ∧ n' = n ∧ ∀ G, withH G n x = some (v, G, n) := by
    intro x hx
    obtain ⟨h1, h2, h3⟩ := withH_some hx
    exact ⟨h2, h3, fun G => by rw [h1]; rfl⟩
  unfold cop at h
  split at h <;> simp only [kindOf] at hk <;> (try (exact key _ h))
  case h_3 =>
    split at h
    · rename_i hc; simp only [cop, hc]; exact key _ h
    · rename_i hc; simp only [cop, hc]; exact key _ h
    · simp at h
  case h_4 => simp at hk
  case h_5 => simp at hk
  case h_6 =>
    split at h
    · rename_i hc
      split at h
      · rename_i hc2; simp only [cop, hc, hc2, if_true]; exact key _ h
      · simp at h
    · simp at h
  case h_7 => simp at hk
  case h_8 t x =>
    obtain ⟨h1, h2, h3⟩ := withH_some h
    obtain ⟨u, hu, h4⟩ := ev1_some h1
    rw [hu] at hk
    cases u <;> simp [cLoad] at h4
    rename_i p
    cases p <;> simp at h4
    simp at hk
  case h_9 => simp at hk
  case h_14 =>
    split at h
    · rename_i h1 h2; simp only [cop, h1, h2]; exact key _ h
    · simp at h
  case h_15 => simp at hk
  case h_16 t x lo hi mx =>
    split at h
    case h_2 => simp at h
    case h_1 l hh m hl hhh hm =>
      simp only [cop, hl, hhh, hm]
      obtain ⟨h1, h2, h3⟩ := withH_some h
      obtain ⟨u, hu, h4⟩ := ev1_some h1
      rw [hu] at hk
      refine ⟨h2, h3, fun G => ?_⟩
      have : cSlice P t G u l hh m = some v := by
        unfold cSlice at h4 ⊢
        split at h4
        case h_2 => simp at h4
        case h_1 T hT =>
          split at h4
          case h_3 n e p hp => simp at hk
          case h_1 => exact h4
          case h_2 => exact h4
          case h_4 => simp at h4
      simp [ev1, hu, this, withH]
  case h_22 c =>
    split at h
    case h_2 => simp at h
    case h_1 b hb =>
      simp only [cop, hb]
      unfold cBuiltin at h
      split at h
      · exact key _ h
      · rw [hb] at hk; simp at hk
      · exact key _ h
      · exact key _ h
      · rw [hb] at hk; simp at hk
      · simp at h
  case h_23 => simp at hk
  case h_24 t x i ok =>
    obtain ⟨h1, h2, h3⟩ := withH_some h
    obtain ⟨u, q, hu, hq, h4⟩ := ev2_some h1
    rw [hu] at hk
    refine ⟨h2, h3, fun G => ?_⟩
    simp only [cop, ev2, hu, hq]
    rw [cLookup_congr (H := H) fun r hr => by rw [hr] at hk; simp at hk, h4]; rfl
  case h_25 => simp at hk
  case h_26 => simp at hk
  case h_27 => simp at h

theorem cSlice_congr {t : TypeId} {G H : Heap} {v : Value} {lo hi mx : Option Value} (h : ∀ p, v = .pointer (some p) → G p.block = H p.block) : cSlice P t G v lo hi mx = cSlice P t H v lo hi mx := by
  unfold cSlice
  split
  · split
    · rfl
    · rfl
    · rw [h _ rfl]
    · rfl
  · rfl

theorem cop_load {o : Op} {ts : Temps} {H H' : Heap} {n n' x : Nat} {v : Value} (hk : kindOf o ts = .load x) (h : cop P o ts H n = some (v, H', n')) :
    H' = H ∧ n' = n ∧ ∀ G, G x = H x → cop P o ts G n = some (v, G, n) := by
  unfold kindOf at hk
  split at hk
  · rename_i t a
    split at hk
    · rename_i p hp
      injection hk with hk
      subst hk
      simp only [cop] at h ⊢
      obtain ⟨h1, h2, h3⟩ := withH_some h
      refine ⟨h2, h3, fun G hG => ?_⟩
      simp only [ev1, hp, cLoad] at h1 ⊢
      rw [hG, h1]; rfl
    · simp at hk
  · rename_i t a lo hi mx
    split at hk
    · rename_i p hp
      injection hk with hk
      subst hk
      simp only [cop] at h ⊢
      split at h
      case h_2 => simp at h
      case h_1 l hh m hl hhh hm =>
        obtain ⟨h1, h2, h3⟩ := withH_some h
        refine ⟨h2, h3, fun G hG => ?_⟩
        simp only [ev1, hp] at h1 ⊢
        rw [cSlice_congr (G := G) (H := H) (fun q hq => by injection hq with hq; injection hq with hq; rw [← hq]; exact hG), h1]; rfl
    · simp at hk
  · rename_i t a i ok
    split at hk
    · rename_i p hp
      injection hk with hk
      subst hk
      simp only [cop] at h ⊢
      obtain ⟨h1, h2, h3⟩ := withH_some h
      refine ⟨h2, h3, fun G hG => ?_⟩
      have : ev2 ts a i (cLookup P t ok G) = ev2 ts a i (cLookup P t ok H) := by
        unfold ev2
        rw [hp]
        split
        · rename_i heq _
          obtain rfl := Option.some.inj heq
          exact cLookup_congr fun r hr => by injection hr with hr; injection hr with hr; subst hr; exact hG
        · rfl
      rw [this, h1]; rfl
    · simp at hk
  all_goals first | (simp at hk; done) | (split at hk <;> simp at hk)

theorem cop_new {o : Op} {ts : Temps} {H H' : Heap} {n n' x : Nat} {v : Value} (hk : kindOf o ts = .new x) (h : cop P o ts H n = some (v, H', n')) :
    n' = n + 1 ∧ ∃ b, H' = H.set n b ∧ ∀ G, cop P o ts G n = some (v, G.set n b, n + 1) := by
  unfold kindOf at hk
  split at hk
  · split at hk <;> simp at hk
  · split at hk <;> simp at hk
  · split at hk <;> simp at hk
  · simp only [cop] at h ⊢
    split at h
    · rename_i T hT
      split at h
      · simp only [Option.some.injEq, Prod.mk.injEq] at h
        obtain ⟨rfl, rfl, rfl⟩ := h
        rename_i hz
        exact ⟨rfl, _, rfl, fun G => by simp only [hT, hz]; rfl⟩
      · simp at h
    · simp at h
  · simp only [cop] at h ⊢
    split at h
    · rename_i u hu
      split at h
      · simp at h
      · rename_i ht
        simp only [Option.some.injEq, Prod.mk.injEq] at h
        obtain ⟨rfl, rfl, rfl⟩ := h
        exact ⟨rfl, _, rfl, fun G => by simp only [hu, ht]; rfl⟩
    · simp at h
  · simp only [cop] at h ⊢
    split at h
    · rename_i vs hvs
      split at h
      · rename_i ht
        simp only [hvs, ht, if_true]
        unfold cBuildSlice at h ⊢
        split at h
        case h_2 => simp at h
        case h_1 T hT =>
          split at h
          case h_2 => simp at h
          case h_1 e he =>
            split at h
            case h_2 => simp at h
            case h_1 E hE =>
              split at h
              case isFalse => simp at h
              case isTrue hc =>
                split at h
                case h_2 => simp at h
                case h_1 cs hcs =>
                  split at h
                  case isFalse => simp at h
                  case isTrue hl =>
                    simp only [Option.some.injEq, Prod.mk.injEq] at h
                    obtain ⟨rfl, rfl, rfl⟩ := h
                    exact ⟨rfl, _, rfl, fun G => by simp only [hT, he, hE, if_pos hc, hcs, if_pos hl]⟩
      · simp at h
    · simp at h
  · simp only [cop] at h ⊢
    split at h
    · rename_i u r hu hr
      unfold cMake at h ⊢
      split at h
      case h_2 => simp at h
      case h_1 a b =>
        split at h
        case h_2 => simp at h
        case h_1 T hT =>
          split at h
          case h_2 => simp at h
          case h_1 e he =>
            split at h
            case h_2 => simp at h
            case h_1 E hE =>
              split at h
              case isFalse => simp at h
              case isTrue hc =>
                simp only [Option.some.injEq, Prod.mk.injEq] at h
                obtain ⟨rfl, rfl, rfl⟩ := h
                exact ⟨rfl, _, rfl, fun G => by simp only [hT, he, hE, if_pos hc]⟩
    · simp at h
  · rename_i t rs
    cases rs with
    | none =>
      simp only [cop, cMakeMap, Option.some.injEq, Prod.mk.injEq] at h ⊢
      obtain ⟨rfl, rfl, rfl⟩ := h
      exact ⟨rfl, _, rfl, fun G => ⟨rfl, rfl, trivial⟩⟩
    | some _ => simp [cop] at h
  all_goals first | (simp at hk; done) | (split at hk <;> simp at hk)

theorem callee_none {o : Op} {ts : Temps} (h : ∀ lo hi m, kindOf o ts ≠ .eff lo hi m) : calleeOf ts o = none := by
  unfold calleeOf
  split
  · rename_i c
    split
    · rename_i f hf
      exact absurd (by simp [kindOf, hf]) (h 0 0 [])
    · rfl
  · rfl

end Go.Sep
/- Regions whose order the machine draws: that one run in the order of the text is enough. -/
namespace Go.Sep
open Go
set_option linter.unusedVariables false
set_option linter.unusedSimpArgs false

variable {P : Program}

theorem hidden_mem {m : Nat} : ∀ {acc : List (Nat × Foot)} {y : Nat}, y ∉ hidden m acc → ∀ i x, (i, Foot.new x) ∈ acc → m.testBit i = true ∨ y ≠ x
  | [], y, _, i, x, h => by simp at h
  | (j, f) :: acc, y, hy, i, x, h => by
    cases f with
    | new z =>
      simp only [hidden] at hy
      split at hy
      · rename_i ht
        simp at h
        rcases h with ⟨rfl, rfl⟩ | h
        · exact .inl ht
        · exact hidden_mem hy i x h
      · simp at hy
        simp at h
        rcases h with ⟨rfl, rfl⟩ | h
        · exact .inr hy.1
        · exact hidden_mem hy.2 i x h
    | pure => simp at h; exact hidden_mem (by simpa [hidden] using hy) i x h
    | load z => simp at h; exact hidden_mem (by simpa [hidden] using hy) i x h
    | eff a b c => simp at h; exact hidden_mem (by simpa [hidden] using hy) i x h

theorem accOk_mem {m : Nat} {f : Foot} : ∀ {acc : List (Nat × Foot)}, accOk m f acc → ∀ i g, (i, g) ∈ acc → m.testBit i = true ∨ compat g f
  | [], _, i, g, h => by simp at h
  | (j, g') :: acc, ha, i, g, h => by
    simp at h
    rcases h with ⟨rfl, rfl⟩ | h
    · exact ha.1
    · exact accOk_mem ha.2 i g h

theorem stepOp_cop {o : Op} {s : St} {v : Value} {H' : Heap} {n' : Nat} {K : Value → Heap → Nat → Prop} (hc : calleeOf s.ts o = none) (h : cop P o s.ts s.H s.n = some (v, H', n')) (hk : K v H' n') :
    stepOp P o s K := by
  unfold stepOp
  rw [hc]
  simp only [h]
  exact hk

theorem stepOp_det {o : Op} {s : St} {K : Value → Heap → Nat → Prop} (h : stepOp P o s K) : ∃ v H' n', stepOp P o s (fun v' H'' n'' => v' = v ∧ H'' = H' ∧ n'' = n') ∧ K v H' n' := by
  unfold stepOp at h ⊢
  split at h
  · obtain ⟨v, H', n', hf, hk⟩ := h
    exact ⟨v, H', n', ⟨v, H', n', hf, rfl, rfl, rfl⟩, hk⟩
  · split at h
    · rename_i v H' n' hc
      exact ⟨v, H', n', ⟨rfl, rfl, rfl⟩, h⟩
    · exact h.elim

theorem restr_eq {need : Nat → Prop} {H : Heap} {y : Nat} (h : need y) : restr need H y = H y := by simp [restr, h]
theorem restr_none {need : Nat → Prop} {H : Heap} {y : Nat} (h : ¬ need y) : restr need H y = none := by simp [restr, h]

theorem wopsD_trace {N : Nat} {ops : Array Oper} {ms : List Nat} {K : St → Prop} : ∀ (r : List Oper) (p : Nat) (acc : List (Nat × Foot)) (s : St), ops.toList.drop p = r →
    wopsD P N ops r (ms.drop p) p acc s K → (∀ i f, (i, f) ∈ acc → FootWf s.n f) →
    ∃ (S : Nat → St) (need dom : Nat → Nat → Prop), S p = s ∧
      (∀ q o, p ≤ q → ops.toList[q]? = some o → Loc1 P N ops o (S q) (S (q + 1)) (need q) (dom q)) ∧
      (∀ a b, p ≤ a → a < b → b < ops.toList.length → (ms.getD b 0).testBit a = true ∨ Disj (need a) (dom a) (need b) (dom b)) ∧
      (∀ i f, (i, f) ∈ acc → ∀ b, p ≤ b → b < ops.toList.length → (ms.getD b 0).testBit i = true ∨ Disj (needF f) (domF f) (need b) (dom b)) ∧
      K (S (max p ops.toList.length))
  | [], p, acc, s, hr, h, hwf => by
    have hp : ops.toList.length ≤ p := by simpa using hr
    refine ⟨fun _ => s, fun _ _ => False, fun _ _ => False, rfl, fun q o hq ho => ?_, fun a b _ _ hb => by omega, fun i f _ b _ hb => by omega, ?_⟩
    · have := (List.getElem?_eq_some_iff.mp ho).1
      omega
    · cases hms : ms.drop p <;> (rw [hms] at h; exact h)
  | o :: r, p, acc, s, hr, h, hwf => by
    have ho : ops.toList[p]? = some o := by
      have := congrArg (·[0]?) hr
      simpa [List.getElem?_drop] using this
    have hpl : p < ops.toList.length := (List.getElem?_eq_some_iff.mp ho).1
    have hr' : ops.toList.drop (p + 1) = r := by rw [← List.drop_drop, hr]; rfl
    cases hms : ms.drop p with
    | nil => rw [hms] at h; exact h.elim
    | cons m ms' =>
      rw [hms] at h
      have hm : ms.getD p 0 = m := by
        have := congrArg (·[0]?) hms
        simp [List.getElem?_drop] at this
        rw [List.getD_eq_getElem?_getD, this]; rfl
      have hms' : ms' = ms.drop (p + 1) := by rw [← List.drop_drop, hms]; rfl
      simp only [wopsD] at h
      obtain ⟨hd, h⟩ := h
      -- one more state ahead of a trace
      have glue : ∀ (s' : St) (need0 dom0 : Nat → Prop) (acc' : List (Nat × Foot)), Loc1 P N ops o s s' need0 dom0 →
          wopsD P N ops r (ms.drop (p + 1)) (p + 1) acc' s' K → (∀ i f, (i, f) ∈ acc' → FootWf s'.n f) → (∀ i f, (i, f) ∈ acc → (i, f) ∈ acc') →
          (∀ b nb db, (∀ i f, (i, f) ∈ acc' → (ms.getD b 0).testBit i = true ∨ Disj (needF f) (domF f) nb db) → (ms.getD b 0).testBit p = true ∨ Disj need0 dom0 nb db) →
          (∀ i f, (i, f) ∈ acc → m.testBit i = true ∨ Disj (needF f) (domF f) need0 dom0) →
          ∃ (S : Nat → St) (need dom : Nat → Nat → Prop), S p = s ∧
            (∀ q o, p ≤ q → ops.toList[q]? = some o → Loc1 P N ops o (S q) (S (q + 1)) (need q) (dom q)) ∧
            (∀ a b, p ≤ a → a < b → b < ops.toList.length → (ms.getD b 0).testBit a = true ∨ Disj (need a) (dom a) (need b) (dom b)) ∧
            (∀ i f, (i, f) ∈ acc → ∀ b, p ≤ b → b < ops.toList.length → (ms.getD b 0).testBit i = true ∨ Disj (needF f) (domF f) (need b) (dom b)) ∧
            K (S (max p ops.toList.length)) := by
        intro s' need0 dom0 acc' hloc hw hwf' hsub hpair hpast
        obtain ⟨S, need, dom, hS, hL, hP, hA, hK⟩ := wopsD_trace r (p + 1) acc' s' hr' hw hwf'
        refine ⟨fun q => if q = p then s else S q, fun q => if q = p then need0 else need q, fun q => if q = p then dom0 else dom q, by simp, ?_, ?_, ?_, ?_⟩
        · intro q o' hq ho'
          by_cases e : q = p
          · subst e
            rw [ho] at ho'
            obtain rfl := Option.some.inj ho'
            simp [hS]
            exact hloc
          · have := hL q o' (by omega) ho'
            simp only [if_neg e, if_neg (show q + 1 ≠ p by omega)]
            exact this
        · intro a b ha hab hb
          by_cases e : a = p
          · subst e
            simp only [if_true, if_neg (show b ≠ a by omega)]
            exact hpair b (need b) (dom b) (fun i f hf => hA i f hf b (by omega) hb)
          · simp only [if_neg e, if_neg (show b ≠ p by omega)]
            exact hP a b (by omega) hab hb
        · intro i f hf b hb1 hb2
          by_cases e : b = p
          · subst e
            simp only [if_true, hm]
            exact hpast i f hf
          · simp only [if_neg e]
            exact hA i f (hsub i f hf) b (by omega) hb2
        · have e : max p ops.toList.length = max (p + 1) ops.toList.length := by omega
          rw [e]
          simp only [if_neg (show max (p + 1) ops.toList.length ≠ p by omega)]
          exact hK
      have dfalse : ∀ n d, Disj (fun _ => False) (fun _ => False) n d := fun n d y => by simp
      have dfalse' : ∀ n d, Disj n d (fun _ => False) (fun _ => False) := fun n d y => by simp
      split at h
      · -- left out
        rw [hms'] at h
        refine glue _ (fun _ => False) (fun _ => False) acc ?_ h hwf (fun i f hf => hf) (fun b nb db _ => .inr (dfalse _ _)) (fun i f _ => .inr (dfalse' _ _))
        rename_i hw
        exact ⟨hd, Nat.le_refl _, ⟨.tuple #[], _, rfl, .inr ⟨hw, rfl, rfl, rfl⟩, fun _ _ => rfl, fun _ hf => hf.elim, fun _ hf => hf.elim⟩, fun _ hf => hf.elim, fun _ hf => hf.elim⟩
      · rename_i hw
        split at h
        · -- pure
          rename_i hk
          split at h
          case h_2 => exact h.elim
          case h_1 v H' n' hc =>
            rw [hms'] at h
            obtain ⟨_, _, hG⟩ := cop_pure hk hc
            refine glue _ (fun _ => False) (fun _ => False) acc ?_ h hwf (fun i f hf => hf) (fun b nb db _ => .inr (dfalse _ _)) (fun i f _ => .inr (dfalse' _ _))
            refine ⟨hd, Nat.le_refl _, ⟨v, restr (fun _ => False) s.H, rfl, .inl ⟨hw, ?_⟩, fun _ _ => rfl, fun _ hf => hf.elim, fun _ hf => hf.elim⟩, fun _ hf => hf.elim, fun _ hf => hf.elim⟩
            exact stepOp_cop (callee_none (by rw [hk]; intros; simp)) (hG _) ⟨rfl, rfl, rfl⟩
        · -- a load
          rename_i x hk
          obtain ⟨⟨hx, hok⟩, h⟩ := h
          split at h
          case h_2 => exact h.elim
          case h_1 v H' n' hc =>
            rw [hms'] at h
            obtain ⟨_, _, hG⟩ := cop_load hk hc
            refine glue _ (fun y => y = x) (fun _ => False) _ ?_ h ?_ (fun i f hf => by simp [hf]) ?_ ?_
            · refine ⟨hd, Nat.le_refl _, ⟨v, restr (fun y => y = x) s.H, rfl, .inl ⟨hw, ?_⟩, fun _ _ => rfl, fun _ hf => hf.elim, fun y hy _ => restr_eq hy⟩, fun y hy => by rw [hy]; exact hx, fun _ hf => hf.elim⟩
              exact stepOp_cop (callee_none (by rw [hk]; intros; simp)) (hG _ (restr_eq rfl)) ⟨rfl, rfl, rfl⟩
            · intro i f hf
              simp at hf
              rcases hf with ⟨rfl, rfl⟩ | hf
              · exact hx
              · exact hwf i f hf
            · intro b nb db hall
              have := hall p (.load x) (by simp)
              exact this
            · intro i f hf
              rcases accOk_mem hok i f hf with h1 | h1
              · exact .inl h1
              · refine .inr fun y => ?_
                have hw1 := hwf i f hf
                cases f <;> simp only [compat, domF, needF] at h1 ⊢ <;> (try simp)
                · exact fun e1 e2 => h1 (by rw [← e2, e1])
                · intro e1 e2
                  subst e2
                  rcases e1 with e1 | e1
                  · omega
                  · exact h1.2 e1
        · -- a new block
          rename_i x hk
          split at h
          case h_2 => exact h.elim
          case h_1 v H' n' hc =>
            rw [hms'] at h
            obtain ⟨rfl, b, rfl, hG⟩ := cop_new hk hc
            refine glue _ (fun _ => False) (fun y => y = s.n) _ ?_ h ?_ (fun i f hf => by simp [hf]) ?_ ?_
            · refine ⟨hd, Nat.le_succ _, ⟨v, (restr (fun _ => False) s.H).set s.n b, rfl, .inl ⟨hw, ?_⟩, fun y hy => Heap.set_ne _ _ hy, fun y hy => by subst hy; exact (Heap.set_same _ _ _).trans (Heap.set_same _ _ _).symm, fun _ hf => hf.elim⟩, fun _ hf => hf.elim, fun y hy => by subst hy; exact ⟨Nat.lt_succ_self _, fun h => absurd h (Nat.lt_irrefl _)⟩⟩
              exact stepOp_cop (callee_none (by rw [hk]; intros; simp)) (hG _) ⟨rfl, rfl, rfl⟩
            · intro i f hf
              simp at hf
              rcases hf with ⟨rfl, rfl⟩ | hf
              · exact Nat.lt_succ_self _
              · exact (hwf i f hf).mono (Nat.le_succ _)
            · intro b' nb db hall
              exact hall p (.new s.n) (by simp)
            · intro i f hf
              refine .inr fun y => ?_
              have hw1 := hwf i f hf
              cases f <;> simp only [FootWf, domF, needF] at hw1 ⊢ <;> (try simp) <;> (try omega)
              · rename_i lo hi muts
                refine ⟨?_, ?_⟩
                · rintro (e | e) rfl
                  · omega
                  · have := hw1.2.2 _ e; omega
                · rintro e rfl; omega
        · -- anything else
          rename_i lo0 hi0 m0 hk
          obtain ⟨muts, hmuts, h⟩ := h
          obtain ⟨v, H1, n1, hstep, hn1, hkeep, hok, h⟩ := stepOp_det h
          rw [hms'] at h
          have hrestr : restr (fun y => y < s.n ∧ y ∉ hidden m acc) s.H = hide (hidden m acc) s.n s.H := by
            funext y
            unfold restr hide
            by_cases e : y < s.n ∧ y ∉ hidden m acc
            · rw [if_pos e, if_pos e]
            · rw [if_neg e, if_neg e]
          refine glue _ (fun y => y < s.n ∧ y ∉ hidden m acc) (domF (.eff s.n n1 muts)) _ ?_ h ?_ (fun i f hf => by simp [hf]) ?_ ?_
          · refine ⟨hd, hn1, ⟨v, H1, rfl, .inl ⟨hw, by rw [hrestr]; exact hstep⟩, ?_, ?_, ?_⟩, fun y hy => hy.1, ?_⟩
            · intro y hy
              simp only [domF] at hy
              simp only [unhide]
              split
              · rename_i e
                exact hkeep y (by
                  rcases Nat.lt_or_ge y s.n with g | g
                  · exact g
                  · exact absurd (.inl ⟨g, e.1⟩) hy) (fun g => hy (.inr g)) e.2
              · rfl
            · intro y hy
              simp only [unhide]
              rw [if_pos]
              rcases hy with ⟨g1, g2⟩ | g
              · refine ⟨g2, fun hh => ?_⟩
                have hlt : ∀ (acc : List (Nat × Foot)), (∀ i f, (i, f) ∈ acc → FootWf s.n f) → ∀ y ∈ hidden m acc, y < s.n := by
                  intro acc
                  induction acc with
                  | nil => intro _ y hy; simp [hidden] at hy
                  | cons q acc ih =>
                    intro hwf y hy
                    obtain ⟨i, f⟩ := q
                    have ih' := ih (fun i f hf => hwf i f (by simp [hf]))
                    cases f with
                    | new z =>
                      simp only [hidden] at hy
                      split at hy
                      · exact ih' y hy
                      · simp at hy
                        rcases hy with rfl | hy
                        · exact hwf i (.new y) (by simp)
                        · exact ih' y hy
                    | pure => exact ih' y (by simpa [hidden] using hy)
                    | load z => exact ih' y (by simpa [hidden] using hy)
                    | eff a b c => exact ih' y (by simpa [hidden] using hy)
                have := hlt acc hwf y hh
                omega
              · have := hmuts y g
                exact ⟨by omega, this.2⟩
            · intro y hy hnd
              exact hkeep y hy.1 (fun g => hnd (.inr g)) hy.2
            · intro y hy
              rcases hy with ⟨g1, g2⟩ | g
              · exact ⟨g2, fun h => by omega⟩
              · have := hmuts y g
                exact ⟨by simp only []; omega, fun _ => this⟩
          · intro i f hf
            simp at hf
            rcases hf with ⟨rfl, rfl⟩ | hf
            · exact ⟨hn1, Nat.le_refl _, fun y hy => (hmuts y hy).1⟩
            · exact (hwf i f hf).mono hn1
          · intro b nb db hall
            rcases hall p (.eff s.n n1 muts) (by simp) with g | g
            · exact .inl g
            · refine .inr fun y => ⟨(g y).1, fun hh => (g y).2.1 ⟨hh.1.1, hh.2⟩, (g y).2.2⟩
          · intro i f hf
            have hw1 := hwf i f hf
            cases f with
            | new x =>
              rcases accOk_mem hok i _ hf with g | g
              · exact .inl g
              · by_cases ht : m.testBit i = true
                · exact .inl ht
                · refine .inr fun y => ?_
                  simp only [domF, needF, compat, FootWf] at g hw1 ⊢
                  refine ⟨?_, by simp, ?_⟩
                  · rintro ⟨rfl, e | e⟩
                    · omega
                    · exact g e
                  · rintro ⟨rfl, e1, e2⟩
                    rcases hidden_mem e2 i y hf with e | e
                    · exact ht e
                    · exact e rfl
            | load x =>
              rcases accOk_mem hok i _ hf with g | g
              · exact .inl g
              · refine .inr fun y => ?_
                simp only [domF, needF, compat, FootWf] at g hw1 ⊢
                refine ⟨by simp, ?_, by simp⟩
                rintro ⟨rfl, e | e⟩
                · omega
                · exact g e
            | eff a b c =>
              rcases accOk_mem hok i _ hf with g | g
              · exact .inl g
              · exact g.elim
            | pure => exact .inr (fun y => by simp [domF, needF])
      · exact h.elim

end Go.Sep
/- Regions whose order the machine draws: the run of the machine. -/
namespace Go.Sep
open Go
set_option linter.unusedVariables false
set_option linter.unusedSimpArgs false

variable {P : Program}

/-! ### An operation looks at its operands alone -/

theorem evs_congr {ts ts' : Temps} : ∀ {xs : List Operand}, (∀ x ∈ xs, ev ts x = ev ts' x) → evs ts xs = evs ts' xs
  | [], _ => rfl
  | x :: xs, h => by
    simp only [evs]
    rw [h x (by simp), evs_congr fun y hy => h y (by simp [hy])]

theorem evParts_congr {ts ts' : Temps} : ∀ {xs : List (Nat × Operand)}, (∀ x ∈ xs.map (·.2), ev ts x = ev ts' x) → evParts ts xs = evParts ts' xs
  | [], _ => rfl
  | (i, x) :: xs, h => by
    simp only [evParts]
    rw [h x (by simp), evParts_congr fun y hy => h y (by simp at hy ⊢; exact .inr hy)]

theorem evO_congr {ts ts' : Temps} {x : Option Operand} (h : ∀ y, x = some y → ev ts y = ev ts' y) : evO ts x = evO ts' x := by
  cases x with
  | none => rfl
  | some y => simp only [evO]; rw [h y rfl]

theorem builtin_congr {ts ts' : Temps} {b : Builtin} {tys : Array TypeId} {xs : List Operand} {H : Heap} {n : Nat} (h : ∀ x ∈ xs, ev ts x = ev ts' x) : cBuiltin P b tys xs ts H n = cBuiltin P b tys xs ts' H n := by
  unfold cBuiltin
  split
  · congr 1
    split
    · simp only [ev1]; rw [h _ (by simp)]
    · rfl
  · split
    · rw [h _ (by simp), h _ (by simp)]
    · rfl
  · rw [evs_congr h]
  · rw [evs_congr h]
  · split
    · rw [h _ (by simp)]
    · rfl
  · rfl

theorem cop_congr {o : Op} {ts ts' : Temps} {H : Heap} {n : Nat} (h : ∀ x ∈ o.operands, ev ts x = ev ts' x) : cop P o ts H n = cop P o ts' H n := by
  cases o <;> simp only [Op.operands] at h <;> simp only [cop, ev1, ev2] <;> try rfl
  case build t ps => rw [evParts_congr (xs := ps.toList) fun x hx => h x (by simpa using hx)]
  case buildSlice t len ps => rw [evParts_congr (xs := ps.toList) fun x hx => h x (by simpa using hx)]
  case makeFunc fn fs cs => rw [evs_congr (xs := fs.toList) fun x hx => h x (by simp at hx ⊢; exact .inl hx), evs_congr (xs := cs.toList) fun x hx => h x (by simp at hx ⊢; exact .inr hx)]
  case slice t x lo hi mx =>
    rw [evO_congr (x := lo) fun y hy => h y (by subst hy; simp), evO_congr (x := hi) fun y hy => h y (by subst hy; simp), evO_congr (x := mx) fun y hy => h y (by subst hy; simp), h x (by simp)]
  case call c =>
    split
    · exact builtin_congr fun x hx => h x (by simp [Call.operands] at hx ⊢; exact .inr hx)
    · rfl
  case mapUpdate t m k x => unfold cMapW; rw [h m (by simp), h k (by simp), h x (by simp)]
  case insert t m k x => unfold cMapW; rw [h m (by simp), h k (by simp), h x (by simp)]
  case makeMap t r => cases r <;> rfl
  case pick c x y => rw [h c (by simp), h x (by simp), h y (by simp)]
  all_goals first
    | (rw [h _ (by simp)]; done)
    | (rw [h _ (by simp), h _ (by simp)]; done)
    | (rename_i x y; rw [h x (by simp), h y (by simp)]; done)
    | (rename_i x y _; rw [h x (by simp), h y (by simp)]; done)

theorem calleeOf_congr {o : Op} {ts ts' : Temps} (h : ∀ x ∈ o.operands, ev ts x = ev ts' x) : calleeOf ts o = calleeOf ts' o := by
  unfold calleeOf
  split
  · rename_i c
    split
    · rename_i f hf
      rw [h f (by simp [Op.operands, Call.operands, hf]), evs_congr fun x hx => h x (by simp [Op.operands, Call.operands] at hx ⊢; exact .inr hx)]
    · rfl
  · rfl

theorem stepOp_congr {o : Op} {ts ts' : Temps} {H : Heap} {n : Nat} {K : Value → Heap → Nat → Prop} (h : ∀ x ∈ o.operands, ev ts x = ev ts' x) (hh : stepOp P o ⟨ts, H, n⟩ K) : stepOp P o ⟨ts', H, n⟩ K := by
  unfold stepOp at hh ⊢
  simp only [] at hh ⊢
  rw [← calleeOf_congr h, ← cop_congr h]
  exact hh

/-- Some temporaries alone. -/
def only (L : List Tmp) (ts : Temps) : Temps := L.filterMap fun t => (get ts t).map fun v => (t, v)

theorem get_only {ts : Temps} : ∀ {L : List Tmp} {t : Tmp}, get (only L ts) t = if t ∈ L then get ts t else none
  | [], t => by simp [only, get]
  | x :: L, t => by
    have ih := get_only (ts := ts) (L := L) (t := t)
    simp only [only, List.filterMap_cons] at ih ⊢
    cases hx : get ts x with
    | none =>
      simp only [Option.map_none]
      rw [ih]
      by_cases e : t = x
      · subst e; simp [hx]
      · simp [e]
    | some v =>
      simp only [Option.map_some, get]
      by_cases e : x = t
      · subst e; simp [hx]
      · rw [if_neg e, ih]
        simp [show t ≠ x from fun h => e h.symm]

theorem wantC_only {ops : Array Oper} {o : Oper} {ts : Temps} : wantC ops o (only (o.looksAt ops) ts) = wantC ops o ts := by
  unfold wantC
  split
  · rfl
  · rename_i j want hg
    split
    · rename_i oj hj
      split
      · rename_i t ht
        rw [get_only, if_pos]
        simp [Oper.looksAt, hg, hj, ht]
      · rfl
    · rfl

theorem ev_only {ops : Array Oper} {o : Oper} {ts : Temps} {x : Operand} (h : x ∈ o.op.operands) : ev ts x = ev (only (o.looksAt ops) ts) x := by
  cases x with
  | tmp t =>
    simp only [ev]
    rw [get_only, if_pos]
    exact List.mem_append_left _ (List.mem_filterMap.2 ⟨.tmp t, by simpa using h, rfl⟩)
  | _ => rfl

/-! ### Names below a number -/

theorem ltV_mono {n m : Nat} (h : n ≤ m) {v : Value} (hv : ltV n v = true) : ltV m v = true := by
  unfold ltV at hv ⊢
  split at hv
  · exact all_mono (fun v => ltC_mono h) hv
  · exact ltC_mono h hv
theorem ltT_mono {n m : Nat} (h : n ≤ m) {v : Value} (hv : ltT n v = true) : ltT m v = true := by
  unfold ltT at hv ⊢
  split at hv
  · exact all_mono (fun v => ltV_mono h) hv
  · exact ltV_mono h hv

theorem renA_id (v : Value) : renA id v = v := by
  cases v with
  | pointer a => cases a <;> rfl
  | slice a _ _ => cases a <;> rfl
  | map r => cases r <;> rfl
  | _ => rfl
theorem renC_id (v : Value) : renC id v = v := by
  unfold renC
  split
  · congr 1; simp [show renA id = id from funext renA_id]
  · exact renA_id _
theorem renV_id (v : Value) : renV id v = v := by
  unfold renV
  split
  · congr 1; simp [show renC id = id from funext renC_id]
  · exact renC_id _
theorem renT_id (v : Value) : renT id v = v := by
  unfold renT
  split
  · congr 1; simp [show renV id = id from funext renV_id]
  · exact renV_id _

theorem VC.cut {β β' : Names} {n : Nat} (h : ∀ x, x < n → β' x = β x) {c v : Value} (hl : ltC n c = true) (hv : VC β c v) : VC β' c v :=
  VC.ren (ρ := id) (β := β) h hl (by rw [renC_id]; exact hv)
theorem VT.cut {β β' : Names} {n : Nat} (h : ∀ x, x < n → β' x = β x) {c v : Value} (hl : ltT n c = true) (hv : VT β c v) : VT β' c v :=
  VT.ren (ρ := id) (β := β) h hl (by rw [renT_id]; exact hv)

theorem VA.lt {β : Names} {n : Nat} (hf : ∀ x, n ≤ x → β x = none) {c v : Value} (hv : VA β c v) : ltV n c = true := by
  by_cases hc : ∃ cs, c = .agg cs
  · obtain ⟨cs, rfl⟩ := hc
    obtain ⟨cs', _, h⟩ := hv
    exact All2.lt (R := VC β) (fun _ _ hh => VC.lt hf hh) h
  · have e1 : ltV n c = ltC n c := by cases c <;> first | rfl | exact absurd ⟨_, rfl⟩ hc
    have e2 : VA β c v = VC β c v := by cases c <;> first | rfl | exact absurd ⟨_, rfl⟩ hc
    rw [e1]; exact VC.lt hf (e2 ▸ hv)
theorem VT.lt {β : Names} {n : Nat} (hf : ∀ x, n ≤ x → β x = none) {c v : Value} (hv : VT β c v) : ltT n c = true := by
  by_cases hc : ∃ cs, c = .tuple cs
  · obtain ⟨cs, rfl⟩ := hc
    obtain ⟨cs', _, h⟩ := hv
    exact All2.lt (R := VA β) (fun _ _ hh => VA.lt hf hh) h
  · have e1 : ltT n c = ltV n c := by cases c <;> first | rfl | exact absurd ⟨_, rfl⟩ hc
    have e2 : VT β c v = VA β c v := by cases c <;> first | rfl | exact absurd ⟨_, rfl⟩ hc
    rw [e1]; exact VA.lt hf (e2 ▸ hv)

def BlkLt (n : Nat) : Blk → Prop
  | .cells _ cs => ∀ (i : Nat) (v : Value), cs[i]? = some v → ltC n v = true
  | .map es => ∀ p ∈ es, ltC n p.1 = true ∧ ltC n p.2 = true

theorem BlkLt.mono {n m : Nat} (h : n ≤ m) {b : Blk} (hb : BlkLt n b) : BlkLt m b := by
  cases b with
  | cells _ cs => exact fun i v hi => ltC_mono h (hb i v hi)
  | map es => exact fun p hp => ⟨ltC_mono h (hb p hp).1, ltC_mono h (hb p hp).2⟩

theorem BlkOk.cut {β β' : Names} {n : Nat} (h : ∀ x, x < n → β' x = β x) {w : World} {l : Loc} {b : Blk} (hl : BlkLt n b) (hb : BlkOk β w l b) : BlkOk β' w l b := by
  cases b with
  | cells ro cs =>
    obtain ⟨c, el, fz, h1, h2, h3, h4, h5⟩ := hb
    refine ⟨c, el, fz, h1, h2, h3, fun i v hi => ?_, h5⟩
    obtain ⟨u, hu, hv⟩ := h4 i v hi
    exact ⟨u, hu, hv.cut h (hl i v hi)⟩
  | map es =>
    obtain ⟨arr, clk, h1, h2⟩ := hb
    refine ⟨arr, clk, h1, ?_⟩
    clear h1
    generalize arr.toList = m at h2 ⊢
    induction es generalizing m with
    | nil => cases m with
      | nil => trivial
      | cons _ _ => exact h2.elim
    | cons p es ih => cases m with
      | nil => exact h2.elim
      | cons q m => exact ⟨⟨h2.1.1.cut h (hl p (by simp)).1, h2.1.2.cut h (hl p (by simp)).2⟩, ih (fun p hp => hl p (by simp [hp])) m h2.2⟩

theorem BlkOk.blkLt {β : Names} {n : Nat} (hf : ∀ x, n ≤ x → β x = none) {w : World} {l : Loc} {b : Blk} (hb : BlkOk β w l b) : BlkLt n b := by
  cases b with
  | cells ro cs =>
    obtain ⟨c, el, fz, h1, h2, h3, h4, h5⟩ := hb
    intro i v hi
    obtain ⟨u, hu, hv⟩ := h4 i v hi
    exact hv.lt hf
  | map es =>
    obtain ⟨arr, clk, h1, h2⟩ := hb
    generalize arr.toList = m at h2
    induction es generalizing m with
    | nil => intro p hp; simp at hp
    | cons q es ih => cases m with
      | nil => exact h2.elim
      | cons r m =>
        intro p hp
        simp at hp
        rcases hp with rfl | hp
        · exact ⟨h2.1.1.lt hf, h2.1.2.lt hf⟩
        · exact ih m h2.2 p hp

end Go.Sep
/- Regions whose order the machine draws: one run in the order of the text is enough. -/
namespace Go.Sep
open Go
set_option linter.unusedVariables false
set_option linter.unusedSimpArgs false

variable {P : Program}

theorem mix_congr {κ α : Type} {S : Nat → κ → α} {dom : Nat → κ → Prop} {T T' : Nat → Prop} {m : Nat} {k : κ} (h : ∀ p, p < m → (T p ↔ T' p)) : mix S dom T m k = mix S dom T' m k := by
  induction m with
  | zero => rfl
  | succ m ih =>
    simp only [mix]
    rw [ih fun p hp => h p (by omega)]
    by_cases e : T m ∧ dom m k
    · rw [if_pos e, if_pos ⟨(h m (by omega)).mp e.1, e.2⟩]
    · rw [if_neg e, if_neg fun hh => e ⟨(h m (by omega)).mpr hh.1, hh.2⟩]

/-- The machine's state where the steps of `T` alone have been taken. -/
structure Inv (N : Nat) (m : Nat) (S : Nat → St) (dT dH : Nat → Nat → Prop) (T : Nat → Prop) (β0 : Names) (w0 : World) (β : Names) (a : Act) (w : World) : Prop where
  defers : a.defers = []
  size : a.tmps.size = N
  tmp : ∀ t v, mix (fun j t => get (S j).ts t) dT T m t = some v → ∃ u, a.tmps[t]? = some u ∧ VT β v u
  sat : Sat β (mix (fun j => (S j).H) dH T m) w
  names : ∀ x l, β x = some l → x < (S 0).n ∨ ∃ i, i < m ∧ T i ∧ (S i).n ≤ x ∧ x < (S (i + 1)).n
  ltTs : ∀ i, i < m → T i → ∀ t v, dT i t → get (S (i + 1)).ts t = some v → ltT (S (i + 1)).n v = true
  ltHs : ∀ i, i < m → T i → ∀ x b, dH i x → (S (i + 1)).H x = some b → BlkLt (S (i + 1)).n b
  grow : Grow (S 0).n β0 (S 0).H w0 β (mix (fun j => (S j).H) dH T m) w

theorem get_putT {ts : Temps} {d : Option Tmp} {v : Value} {t : Tmp} (h : d ≠ some t) : get (putT ts d v) t = get ts t := by
  cases d with
  | none => rfl
  | some x => simp only [putT, get]; rw [if_neg (fun e => h (by rw [e]))]

theorem put_get {a : Act} {d : Option Tmp} {u : Value} {t : Tmp} (h : d ≠ some t) : (a.put d u).tmps[t]? = a.tmps[t]? := by
  cases d with
  | none => rfl
  | some x =>
    have : x ≠ t := fun e => h (by rw [e])
    simp [Act.put, Array.getElem?_setIfInBounds_ne this]

theorem Inv.step {N m : Nat} {ops : Array Oper} {S : Nat → St} {need dom : Nat → Nat → Prop} {T : Nat → Prop} {β0 β : Names} {w0 w : World} {a : Act} (hm : ops.toList.length = m)
    (hL : ∀ q o, ops.toList[q]? = some o → Loc1 P N ops o (S q) (S (q + 1)) (need q) (dom q))
    (before : Nat → Nat → Prop)
    (hdisj : ∀ i j, i < j → j < m → before i j ∨ (Disj (need i) (dom i) (need j) (dom j) ∧ ∀ oi oj, ops.toList[i]? = some oi → ops.toList[j]? = some oj → oi.apart ops oj = true))
    (hlt0T : ∀ t v, get (S 0).ts t = some v → ltT (S 0).n v = true) (hlt0H : ∀ x b, (S 0).H x = some b → BlkLt (S 0).n b)
    (hInv : Inv N m S (fun j t => ∃ o, ops.toList[j]? = some o ∧ o.dst = some t) dom T β0 w0 β a w)
    {j : Nat} (hj : j < m) (hTj : ¬ T j) (hready : ∀ i, before i j → T i) (hclosed : ∀ i, before j i → ¬ T i) {Q : Exit → Act → World → Prop} {K' : Act → World → Prop}
    (hK : ∀ β' a' w', Inv N m S (fun j t => ∃ o, ops.toList[j]? = some o ∧ o.dst = some t) dom (fun i => T i ∨ i = j) β0 w0 β' a' w' → K' a' w') :
    wpOp P ops Q j K' a w := by
  obtain ⟨o, ho⟩ : ∃ o, ops.toList[j]? = some o := ⟨ops.toList[j]'(by omega), List.getElem?_eq_getElem (by omega)⟩
  have ho' : ops[j]? = some o := by simpa using ho
  obtain ⟨hd, hn, ⟨v, H1, hts, hstep, hkeep, hnew, hsame⟩, hneedlt, hdomlt⟩ := hL j o ho
  have hmono : ∀ i k, i ≤ k → k ≤ m → (S i).n ≤ (S k).n := by
    intro i k hik hk
    induction k with
    | zero => have : i = 0 := by omega
              subst this; exact Nat.le_refl _
    | succ k ih =>
      by_cases e : i = k + 1
      · subst e; exact Nat.le_refl _
      · exact Nat.le_trans (ih (by omega) (by omega)) (hL k _ (List.getElem?_eq_getElem (by omega))).n
  -- what the text's run says of a temporary, of a block
  have hST : ∀ p, p < m → ∀ t, ¬ (∃ o, ops.toList[p]? = some o ∧ o.dst = some t) → get (S (p + 1)).ts t = get (S p).ts t := by
    intro p hp t hnd
    obtain ⟨op, hop⟩ : ∃ o, ops.toList[p]? = some o := ⟨ops.toList[p]'(by omega), List.getElem?_eq_getElem (by omega)⟩
    obtain ⟨_, _, ⟨v', _, hts', _⟩, _, _⟩ := hL p op hop
    rw [hts']
    exact get_putT fun e => hnd ⟨op, hop, e⟩
  have hSH : ∀ p, p < m → ∀ x, ¬ dom p x → (S (p + 1)).H x = (S p).H x := by
    intro p hp x hnd
    obtain ⟨_, _, ⟨_, _, _, _, hk, _⟩, _, _⟩ := hL p _ (List.getElem?_eq_getElem (by omega))
    exact hk x hnd
  -- an operation before j in the text that touches what j looks at has been taken; one behind it has not
  have look1 : ∀ t, t ∈ o.looksAt ops → ∀ p, p < j → (∃ o, ops.toList[p]? = some o ∧ o.dst = some t) → T p := by
    rintro t ht p hp ⟨op, hop, hdst⟩
    rcases hdisj p j hp hj with h | ⟨_, h⟩
    · exact hready p h
    · exact absurd ht ((Oper.apart_spec (h op o hop ho)).1 t hdst)
  have look2 : ∀ t, t ∈ o.looksAt ops → ∀ p, j < p → p < m → (∃ o, ops.toList[p]? = some o ∧ o.dst = some t) → ¬ T p := by
    rintro t ht p hp hpm ⟨op, hop, hdst⟩
    rcases hdisj j p hp hpm with h | ⟨_, h⟩
    · exact hclosed p h
    · exact absurd ht ((Oper.apart_spec (h o op ho hop)).2.2 t hdst)
  have need1 : ∀ x, need j x → ∀ p, p < j → dom p x → T p := by
    intro x hx p hp hdx
    rcases hdisj p j hp hj with h | ⟨h, _⟩
    · exact hready p h
    · exact absurd ⟨hdx, hx⟩ (h x).2.2
  have need2 : ∀ x, need j x → ∀ p, j < p → p < m → dom p x → ¬ T p := by
    intro x hx p hp hpm hdx
    rcases hdisj j p hp hpm with h | ⟨h, _⟩
    · exact hclosed p h
    · exact absurd ⟨hx, hdx⟩ (h x).2.1
  have lookT : ∀ t, t ∈ o.looksAt ops → mix (fun j t => get (S j).ts t) (fun j t => ∃ o, ops.toList[j]? = some o ∧ o.dst = some t) T m t = get (S j).ts t := fun t ht =>
    mix_need (S := fun j t => get (S j).ts t) (fun p hp hnd => hST p hp t hnd) hj hTj (look1 t ht) (look2 t ht)
  have needH : ∀ x, need j x → mix (fun j => (S j).H) dom T m x = (S j).H x := fun x hx =>
    mix_need (S := fun j => (S j).H) (fun p hp hnd => hSH p hp x hnd) hj hTj (need1 x hx) (need2 x hx)
  have lookLt : ∀ t, t ∈ o.looksAt ops → ∀ v, get (S j).ts t = some v → ltT (S j).n v = true := by
    intro t ht
    have : ∀ p, p ≤ j → ∀ v, get (S p).ts t = some v → ltT (S p).n v = true := by
      intro p
      induction p with
      | zero => intro _ v hv; exact hlt0T t v hv
      | succ p ih =>
        intro hp v hv
        by_cases hdp : ∃ o, ops.toList[p]? = some o ∧ o.dst = some t
        · exact hInv.ltTs p (by omega) (look1 t ht p (by omega) hdp) t v hdp hv
        · rw [hST p (by omega) t hdp] at hv
          exact ltT_mono (hmono p (p + 1) (by omega) (by omega)) (ih (by omega) v hv)
    exact this j (Nat.le_refl _)
  have needLt : ∀ x, need j x → ∀ b, (S j).H x = some b → BlkLt (S j).n b := by
    intro x hx
    have : ∀ p, p ≤ j → ∀ b, (S p).H x = some b → BlkLt (S p).n b := by
      intro p
      induction p with
      | zero => intro _ b hb; exact hlt0H x b hb
      | succ p ih =>
        intro hp b hb
        by_cases hdp : dom p x
        · exact hInv.ltHs p (by omega) (need1 x hx p (by omega) hdp) x b hdp hb
        · rw [hSH p (by omega) x hdp] at hb
          exact (ih (by omega) b hb).mono (hmono p (p + 1) (by omega) (by omega))
    exact this j (Nat.le_refl _)
  -- the names that j may see
  let βr : Names := fun x => if x < (S j).n then β x else none
  have hβr : ∀ x, x < (S j).n → βr x = β x := fun x hx => by simp [βr, hx]
  have hβrn : ∀ x, (S j).n ≤ x → βr x = none := fun x hx => by simp [βr]; omega
  let Hr := restr (need j) (S j).H
  have hHr : ∀ x b, Hr x = some b → need j x ∧ (S j).H x = some b ∧ mix (fun j => (S j).H) dom T m x = some b := by
    intro x b hx
    by_cases hn : need j x
    · rw [show Hr x = (S j).H x from restr_eq hn] at hx
      exact ⟨hn, hx, by rw [needH x hn]; exact hx⟩
    · rw [show Hr x = none from restr_none hn] at hx; simp at hx
  have hrel : Rel N βr ⟨only (o.looksAt ops) (S j).ts, Hr, (S j).n⟩ a w := by
    refine ⟨hInv.defers, hInv.size, ?_, ⟨?_, ?_⟩, hβrn⟩
    · intro t v ht
      simp only [] at ht
      rw [get_only] at ht
      split at ht
      · rename_i hl
        obtain ⟨u, hu, huv⟩ := hInv.tmp t v (by rw [lookT t hl]; exact ht)
        exact ⟨u, hu, huv.cut hβr (lookLt t hl v ht)⟩
      · simp at ht
    · intro x b hx
      obtain ⟨h1, h2, h3⟩ := hHr x b hx
      obtain ⟨l, hl, hk⟩ := hInv.sat.ok x b h3
      exact ⟨l, by rw [hβr x (hneedlt x h1)]; exact hl, hk.cut hβr (needLt x h1 b h2)⟩
    · intro x y b1 b2 l m' hxy hx hy hrw hl hm'
      obtain ⟨h1, _, h3⟩ := hHr x b1 hx
      obtain ⟨g1, _, g3⟩ := hHr y b2 hy
      rw [hβr x (hneedlt x h1)] at hl
      rw [hβr y (hneedlt y g1)] at hm'
      exact hInv.sat.sep x y b1 b2 l m' hxy h3 g3 hrw hl hm'
  have hstep' : (wantC ops o (only (o.looksAt ops) (S j).ts) = some true ∧ stepOp P o.op ⟨only (o.looksAt ops) (S j).ts, Hr, (S j).n⟩ fun v' H' n' => v' = v ∧ H' = H1 ∧ n' = (S (j + 1)).n) ∨
      (wantC ops o (only (o.looksAt ops) (S j).ts) = some false ∧ (Value.tuple #[] = v ∧ Hr = H1 ∧ (S j).n = (S (j + 1)).n)) := by
    rw [wantC_only]
    rcases hstep with ⟨h1, h2⟩ | ⟨h1, h2, h3, h4⟩
    · exact .inl ⟨h1, stepOp_congr (fun x hx => ev_only hx) h2⟩
    · exact .inr ⟨h1, h2.symm, h3.symm, h4.symm⟩
  refine op_sound' (P := P) hrel ho' (K := fun v' H' n' => v' = v ∧ H' = H1 ∧ n' = (S (j + 1)).n) hstep' ?_
  intro v' H' n' β1 u w1 hk hnn hv hs hf hg
  obtain ⟨rfl, rfl, rfl⟩ := hk
  simp only [] at hnn hg
  -- the names behind the step
  let β2 : Names := fun x => if (S j).n ≤ x ∧ x < (S (j + 1)).n then β1 x else β x
  have hout : ∀ x l, β x = some l → ¬ ((S j).n ≤ x ∧ x < (S (j + 1)).n) := by
    rintro x l hx ⟨h1, h2⟩
    rcases hInv.names x l hx with h | ⟨i, hi, hTi, h3, h4⟩
    · have := hmono 0 j (by omega) (by omega); omega
    · rcases Nat.lt_trichotomy i j with e | e | e
      · have := hmono (i + 1) j (by omega) (by omega); omega
      · subst e; exact hTj hTi
      · have := hmono (j + 1) i (by omega) (by omega); omega
  have hle : β.le β2 := fun x l hx => by simp only [β2]; rw [if_neg (hout x l hx)]; exact hx
  have hle1 : β1.le β2 := by
    intro x l hx
    have hlt : x < (S (j + 1)).n := by
      rcases Nat.lt_or_ge x (S (j + 1)).n with g | g
      · exact g
      · rw [hf x g] at hx; simp at hx
    by_cases e : (S j).n ≤ x
    · simp only [β2]; rw [if_pos ⟨e, hlt⟩]; exact hx
    · rw [hg.names x (by omega), hβr x (by omega)] at hx
      exact hle x l hx
  have hβ1 : ∀ x, x < (S j).n → β1 x = β x := fun x hx => (hg.names x hx).trans (hβr x hx)
  have hvlt : ltT (S (j + 1)).n v' = true := hv.lt hf
  have hcond : ∀ p, j < p → p < m → T p → before j p → False := fun p _ _ hTp hb => hclosed p hb hTp
  have mixT : ∀ t, mix (fun j t => get (S j).ts t) (fun j t => ∃ o, ops.toList[j]? = some o ∧ o.dst = some t) (fun i => T i ∨ i = j) m t =
      if o.dst = some t then get (S (j + 1)).ts t else mix (fun j t => get (S j).ts t) (fun j t => ∃ o, ops.toList[j]? = some o ∧ o.dst = some t) T m t := by
    intro t
    rw [mix_add hj ?_ hTj]
    · by_cases e : o.dst = some t
      · rw [if_pos ⟨o, ho, e⟩, if_pos e]
      · rw [if_neg, if_neg e]
        rintro ⟨o2, ho2, hd2⟩
        rw [ho] at ho2
        obtain rfl := Option.some.inj ho2
        exact e hd2
    · rintro p hp hpm ⟨op, hop, hdp⟩ ⟨o2, ho2, hd2⟩ hTp
      rw [ho] at ho2
      obtain rfl := Option.some.inj ho2
      rcases hdisj j p hp hpm with h | ⟨_, h⟩
      · exact hclosed p h hTp
      · exact (Oper.apart_spec (h o op ho hop)).2.1 t hd2 hdp
  have mixH : ∀ x, (dom j x → mix (fun j => (S j).H) dom (fun i => T i ∨ i = j) m x = H' x) ∧ (¬ dom j x → mix (fun j => (S j).H) dom (fun i => T i ∨ i = j) m x = mix (fun j => (S j).H) dom T m x) := by
    intro x
    have := mix_add (S := fun j => (S j).H) (dom := dom) (T := T) (m := m) (k := x) hj (by
      intro p hp hpm hdp hdj hTp
      rcases hdisj j p hp hpm with h | ⟨h, _⟩
      · exact hclosed p h hTp
      · exact (h x).1 ⟨hdj, hdp⟩) hTj
    constructor
    · intro hd'; rw [this, if_pos hd', hnew x hd']
    · intro hd'; rw [this, if_neg hd']
  -- a block that j does not write is as it was
  have old : ∀ x b, ¬ dom j x → mix (fun j => (S j).H) dom T m x = some b → ∃ l, β x = some l ∧ BlkOk β2 w1 l b := by
    intro x b hnd hx
    by_cases hnx : need j x
    · have h1 : H' x = some b := by rw [hsame x hnx hnd, ← needH x hnx]; exact hx
      obtain ⟨l, hl, hk⟩ := hs.ok x b h1
      rw [hβ1 x (hneedlt x hnx)] at hl
      exact ⟨l, hl, hk.names hle1⟩
    · obtain ⟨l, hl, hk⟩ := hInv.sat.ok x b hx
      refine ⟨l, hl, (hk.names hle).world ?_⟩
      refine hg.keep l.blk hk.lt ?_
      rintro ⟨y, c, l2, hy, hrw, hl2, he⟩
      obtain ⟨g1, g2, g3⟩ := hHr y c hy
      rw [hβr y (hneedlt y g1)] at hl2
      have hyx : y ≠ x := fun e => hnx (e ▸ g1)
      exact hInv.sat.sep y x c b l2 l hyx g3 hx hrw hl2 hl he
  -- what a block of j's heap comes from
  have from1 : ∀ x b l, dom j x → H' x = some b → β2 x = some l → β1 x = some l := by
    intro x b l hdx hx hl
    obtain ⟨l1, hl1, _⟩ := hs.ok x b hx
    rw [hle1 x l1 hl1] at hl
    rw [hl1]; exact hl
  refine hK β2 _ w1 ⟨?_, ?_, ?_, ⟨?_, ?_⟩, ?_, ?_, ?_, ?_⟩
  · cases o.dst <;> exact hInv.defers
  · cases hdst : o.dst with
    | none => exact hInv.size
    | some d => simp [Act.put, hInv.size]
  · intro t x ht
    rw [mixT t] at ht
    split at ht
    · rename_i e
      rw [hts, e] at ht
      simp only [putT, get, if_true] at ht
      obtain rfl := Option.some.inj ht
      rw [e] at hd
      simp only [okDst, decide_eq_true_eq] at hd
      exact ⟨u, by simp [e, Act.put, hInv.size, hd], hv.mono hle1⟩
    · rename_i e
      obtain ⟨y, hy, hyv⟩ := hInv.tmp t x ht
      exact ⟨y, by rw [put_get e]; exact hy, hyv.mono hle⟩
  · intro x b hx
    by_cases hdx : dom j x
    · rw [(mixH x).1 hdx] at hx
      obtain ⟨l, hl, hk⟩ := hs.ok x b hx
      exact ⟨l, hle1 x l hl, hk.names hle1⟩
    · rw [(mixH x).2 hdx] at hx
      obtain ⟨l, hl, hk⟩ := old x b hdx hx
      exact ⟨l, hle x l hl, hk⟩
  · intro x y b1 b2 l1 l2 hxy hx hy hrw hl1 hl2
    -- a written block against one that is as it was
    have cross : ∀ x y b1 b2 l1 l2, x ≠ y → dom j x → ¬ dom j y → H' x = some b1 → mix (fun j => (S j).H) dom T m y = some b2 → (b1.rw = true ∨ b2.rw = true) → β2 x = some l1 → β2 y = some l2 → l1.blk ≠ l2.blk := by
      intro x y b1 b2 l1 l2 hxy hdx hdy hx hy hrw hl1 hl2
      have hl1' := from1 x b1 l1 hdx hx hl1
      obtain ⟨l2', hl2', hk2⟩ := hInv.sat.ok y b2 hy
      have : l2' = l2 := by rw [hle y l2' hl2'] at hl2; exact Option.some.inj hl2
      subst this
      by_cases hny : need j y
      · have h1 : H' y = some b2 := by rw [hsame y hny hdy, ← needH y hny]; exact hy
        have hl2'' : β1 y = some l2' := by rw [hβ1 y (hneedlt y hny)]; exact hl2'
        rcases hrw with g | g
        · exact hs.sep x y b1 b2 l1 l2' hxy hx h1 g hl1' hl2''
        · exact fun e => hs.sep y x b2 b1 l2' l1 (fun e => hxy e.symm) h1 hx g hl2'' hl1' e.symm
      · -- y is hidden from j
        have hblk : Own βr Hr l1.blk ∨ w.heap.size ≤ l1.blk ∨ (x < (S j).n ∧ b1.rw = false) := by
          by_cases e : b1.rw = true ∨ (S j).n ≤ x
          · rcases hg.own l1.blk ⟨x, b1, l1, hx, e, hl1', rfl⟩ with g | g
            · exact .inl g
            · exact .inr (.inl g)
          · refine .inr (.inr ⟨by
              rcases Nat.lt_or_ge x (S j).n with g | g
              · exact g
              · exact absurd (.inr g) e, ?_⟩)
            cases hb : b1.rw with
            | false => rfl
            | true => exact absurd (.inl hb) e
        rcases hblk with ⟨z, c, lz, hz, hrz, hlz, he⟩ | g | ⟨g1, g2⟩
        · obtain ⟨q1, q2, q3⟩ := hHr z c hz
          rw [hβr z (hneedlt z q1)] at hlz
          have hzy : z ≠ y := fun e => hny (e ▸ q1)
          rw [← he]
          exact hInv.sat.sep z y c b2 lz l2' hzy q3 hy hrz hlz hl2'
        · have := hk2.lt
          omega
        · -- both are read alone: then the other is owned
          have hrw2 : b2.rw = true := by
            rcases hrw with g | g
            · rw [g2] at g; simp at g
            · exact g
          have hnx := (hdomlt x hdx).2 g1
          have hd0 := hg.dom x g1 (by rw [hx]; simp)
          cases hHx : Hr x with
          | none => exact absurd hHx hd0
          | some c =>
            obtain ⟨q1, q2, q3⟩ := hHr x c hHx
            have hl1'' : β x = some l1 := by rw [← hβ1 x g1]; exact hl1'
            exact fun e => hInv.sat.sep y x b2 c l2' l1 (fun e => hxy e.symm) hy q3 hrw2 hl2' hl1'' e.symm
    by_cases hdx : dom j x
    · rw [(mixH x).1 hdx] at hx
      by_cases hdy : dom j y
      · rw [(mixH y).1 hdy] at hy
        exact hs.sep x y b1 b2 l1 l2 hxy hx hy hrw (from1 x b1 l1 hdx hx hl1) (from1 y b2 l2 hdy hy hl2)
      · rw [(mixH y).2 hdy] at hy
        exact cross x y b1 b2 l1 l2 hxy hdx hdy hx hy (.inl hrw) hl1 hl2
    · rw [(mixH x).2 hdx] at hx
      by_cases hdy : dom j y
      · rw [(mixH y).1 hdy] at hy
        exact fun e => cross y x b2 b1 l2 l1 (fun e => hxy e.symm) hdy hdx hy hx (.inr hrw) hl2 hl1 e.symm
      · rw [(mixH y).2 hdy] at hy
        obtain ⟨p1, hp1, _⟩ := hInv.sat.ok x b1 hx
        obtain ⟨p2, hp2, _⟩ := hInv.sat.ok y b2 hy
        have e1 : p1 = l1 := by rw [hle x p1 hp1] at hl1; exact Option.some.inj hl1
        have e2 : p2 = l2 := by rw [hle y p2 hp2] at hl2; exact Option.some.inj hl2
        subst e1; subst e2
        exact hInv.sat.sep x y b1 b2 p1 p2 hxy hx hy hrw hp1 hp2
  · intro x l hx
    by_cases e : (S j).n ≤ x ∧ x < (S (j + 1)).n
    · exact .inr ⟨j, hj, .inr rfl, e.1, e.2⟩
    · simp only [β2] at hx
      rw [if_neg e] at hx
      rcases hInv.names x l hx with h | ⟨i, hi, hTi, h3⟩
      · exact .inl h
      · exact .inr ⟨i, hi, .inl hTi, h3⟩
  · rintro i hi (hTi | rfl) t x hdt hx
    · exact hInv.ltTs i hi hTi t x hdt hx
    · obtain ⟨o2, ho2, hd2⟩ := hdt
      rw [ho] at ho2
      obtain rfl := Option.some.inj ho2
      rw [hts, hd2] at hx
      simp only [putT, get, if_true] at hx
      obtain rfl := Option.some.inj hx
      exact hvlt
  · rintro i hi (hTi | rfl) x b hdx hx
    · exact hInv.ltHs i hi hTi x b hdx hx
    · rw [hnew x hdx] at hx
      obtain ⟨l, hl, hk⟩ := hs.ok x b hx
      exact hk.blkLt hf
  · have hG := hInv.grow
    refine ⟨?_, hg.os.trans hG.os, hg.tape.trans hG.tape, hg.output.trans hG.output, Nat.le_trans hG.size hg.size, ?_, ?_, ?_⟩
    · intro x hx
      have := hmono 0 j (by omega) (by omega)
      simp only [β2]
      rw [if_neg (by omega)]
      exact hG.names x hx
    · intro k hk hno
      have hno2 : ¬ Own βr Hr k := by
        rintro ⟨x, c, l, hx, hrw, hl, he⟩
        obtain ⟨q1, q2, q3⟩ := hHr x c hx
        rw [hβr x (hneedlt x q1)] at hl
        rcases hG.own k ⟨x, c, l, q3, .inl hrw, hl, he⟩ with g | g
        · exact hno g
        · omega
      exact (hg.keep k (Nat.lt_of_lt_of_le hk hG.size) hno2).trans (hG.keep k hk hno)
    · rintro k ⟨x, b, l, hx, hrw, hl, he⟩
      by_cases hdx : dom j x
      · rw [(mixH x).1 hdx] at hx
        have hl1 := from1 x b l hdx hx hl
        by_cases e : b.rw = true ∨ (S j).n ≤ x
        · rcases hg.own k ⟨x, b, l, hx, e, hl1, he⟩ with ⟨z, c, lz, hz, hrz, hlz, hez⟩ | g
          · obtain ⟨q1, q2, q3⟩ := hHr z c hz
            rw [hβr z (hneedlt z q1)] at hlz
            exact hG.own k ⟨z, c, lz, q3, .inl hrz, hlz, hez⟩
          · exact .inr (Nat.le_trans hG.size g)
        · have hxn : x < (S j).n := by
            rcases Nat.lt_or_ge x (S j).n with g | g
            · exact g
            · exact absurd (.inr g) e
          have h0 : (S 0).n ≤ x := by
            rcases hrw with g | g
            · exact absurd (.inl g) e
            · exact g
          have hd0 := hg.dom x hxn (by rw [hx]; simp)
          cases hHx : Hr x with
          | none => exact absurd hHx hd0
          | some c =>
            obtain ⟨q1, q2, q3⟩ := hHr x c hHx
            rw [hβ1 x hxn] at hl1
            exact hG.own k ⟨x, c, l, q3, .inr h0, hl1, he⟩
      · rw [(mixH x).2 hdx] at hx
        obtain ⟨p1, hp1, _⟩ := hInv.sat.ok x b hx
        have e1 : p1 = l := by rw [hle x p1 hp1] at hl; exact Option.some.inj hl
        subst e1
        exact hG.own k ⟨x, b, p1, hx, hrw, hp1, he⟩
    · intro x hx h2
      by_cases hdx : dom j x
      · rw [(mixH x).1 hdx] at h2
        have hxn : x < (S j).n := by have := hmono 0 j (by omega) (by omega); omega
        have hd0 := hg.dom x hxn h2
        cases hHx : Hr x with
        | none => exact absurd hHx hd0
        | some c =>
          obtain ⟨q1, q2, q3⟩ := hHr x c hHx
          exact hG.dom x hx (by rw [q3]; simp)
      · rw [(mixH x).2 hdx] at h2
        exact hG.dom x hx h2

theorem Inv.congr {N m : Nat} {S : Nat → St} {dT dH : Nat → Nat → Prop} {T T' : Nat → Prop} {β0 β : Names} {w0 w : World} {a : Act} (h : ∀ p, p < m → (T p ↔ T' p))
    (hi : Inv N m S dT dH T β0 w0 β a w) : Inv N m S dT dH T' β0 w0 β a w := by
  have e1 : mix (fun j t => get (S j).ts t) dT T' m = mix (fun j t => get (S j).ts t) dT T m := funext fun t => (mix_congr h).symm
  have e2 : mix (fun j => (S j).H) dH T' m = mix (fun j => (S j).H) dH T m := funext fun t => (mix_congr h).symm
  refine ⟨hi.defers, hi.size, ?_, ?_, ?_, fun i him hT => hi.ltTs i him ((h i him).mpr hT), fun i him hT => hi.ltHs i him ((h i him).mpr hT), ?_⟩
  · rw [e1]; exact hi.tmp
  · rw [e2]; exact hi.sat
  · intro x l hx
    rcases hi.names x l hx with g | ⟨i, g1, g2, g3⟩
    · exact .inl g
    · exact .inr ⟨i, g1, (h i g1).mp g2, g3⟩
  · rw [e2]; exact hi.grow

theorem any_sound {N m : Nat} {ops : Array Oper} {S : Nat → St} {need dom : Nat → Nat → Prop} {ms : List Nat} {β0 : Names} {w0 : World} {Q : Exit → St → Prop} (hm : ops.toList.length = m)
    (hL : ∀ q o, ops.toList[q]? = some o → Loc1 P N ops o (S q) (S (q + 1)) (need q) (dom q))
    (hstatic : staticOk ops ms = true)
    (hpair : ∀ a b, a < b → b < m → (ms.getD b 0).testBit a = true ∨ Disj (need a) (dom a) (need b) (dom b))
    (hlt0T : ∀ t v, get (S 0).ts t = some v → ltT (S 0).n v = true) (hlt0H : ∀ x b, (S 0).H x = some b → BlkLt (S 0).n b) (hQ : Q .normal (S m)) :
    ∀ (fuel : Nat) (listed : Array Bool) (a : Act) (w : World) (β : Names), listed.size = m → listed.toList.count false ≤ fuel →
      (∀ (i : Nat) (o : Oper), ops.toList[i]? = some o → listed[i]? = some true → ∀ d : Nat, d ∈ depsOf o → listed[d]? = some true) →
      Inv N m S (fun j t => ∃ o, ops.toList[j]? = some o ∧ o.dst = some t) dom (fun i => listed[i]? = some true) β0 w0 β a w →
      wpAny P .any ops (Post N β0 (S 0) w0 Q) fuel listed a w := by
  have hs1 : masksFrom ops.toList [] = ms := by
    unfold staticOk at hstatic
    simp only [Bool.and_eq_true, beq_iff_eq] at hstatic
    exact hstatic.1
  have hs2 : staticFrom ops ops.toList ms [] = true := by
    unfold staticOk at hstatic
    simp only [Bool.and_eq_true] at hstatic
    exact hstatic.2
  have hst : ∀ j o, ops.toList[j]? = some o → (∀ d ∈ depsOf o, d < j) ∧ ∀ i q, i < j → ops.toList[i]? = some q → (ms.getD j 0).testBit i = true ∨ q.apart ops o = true := fun j o ho =>
    staticFrom_get ops.toList ms ops.toList 0 (by simp) (by simpa using hs2) j o (Nat.zero_le _) ho
  have hmask : ∀ (T : Nat → Prop), (∀ i o, ops.toList[i]? = some o → T i → ∀ d ∈ depsOf o, T d) → ∀ j o, ops.toList[j]? = some o → (∀ d ∈ depsOf o, T d) → ∀ i, (ms.getD j 0).testBit i = true → T i := by
    intro T hT j o ho hd i hi
    rw [← hs1] at hi
    exact masks_closed ops.toList hT ops.toList 0 [] (by simp) rfl (fun j o hj => by omega) j o ho hd i hi
  have hmono : ∀ i k, i ≤ k → k ≤ m → (S i).n ≤ (S k).n := by
    intro i k hik hk
    induction k with
    | zero => have : i = 0 := by omega
              subst this; exact Nat.le_refl _
    | succ k ih =>
      by_cases e : i = k + 1
      · subst e; exact Nat.le_refl _
      · exact Nat.le_trans (ih (by omega) (by omega)) (hL k _ (List.getElem?_eq_getElem (by omega))).n
  -- all taken
  have fin : ∀ (listed : Array Bool) (a : Act) (w : World) (β : Names), (∀ i, i < m → listed[i]? = some true) →
      Inv N m S (fun j t => ∃ o, ops.toList[j]? = some o ∧ o.dst = some t) dom (fun i => listed[i]? = some true) β0 w0 β a w → Post N β0 (S 0) w0 Q .normal a w := by
    intro listed a w β hall hi
    have hST : ∀ p, p < m → ∀ t, ¬ (∃ o, ops.toList[p]? = some o ∧ o.dst = some t) → get (S (p + 1)).ts t = get (S p).ts t := by
      intro p hp t hnd
      obtain ⟨op, hop⟩ : ∃ o, ops.toList[p]? = some o := ⟨ops.toList[p]'(by omega), List.getElem?_eq_getElem (by omega)⟩
      obtain ⟨_, _, ⟨v', _, hts', _⟩, _, _⟩ := hL p op hop
      rw [hts']
      exact get_putT fun e => hnd ⟨op, hop, e⟩
    have hSH : ∀ p, p < m → ∀ x, ¬ dom p x → (S (p + 1)).H x = (S p).H x := by
      intro p hp x hnd
      obtain ⟨_, _, ⟨_, _, _, _, hk, _⟩, _, _⟩ := hL p _ (List.getElem?_eq_getElem (by omega))
      exact hk x hnd
    have e1 : ∀ t, mix (fun j t => get (S j).ts t) (fun j t => ∃ o, ops.toList[j]? = some o ∧ o.dst = some t) (fun i => listed[i]? = some true) m t = get (S m).ts t := fun t =>
      mix_all (S := fun j t => get (S j).ts t) (fun p hp hnd => hST p hp t hnd) fun p hp => hall p hp
    have e2 : mix (fun j => (S j).H) dom (fun i => listed[i]? = some true) m = (S m).H := funext fun x =>
      mix_all (S := fun j => (S j).H) (fun p hp hnd => hSH p hp x hnd) fun p hp => hall p hp
    have hs := hi.sat
    have hg := hi.grow
    rw [e2] at hs hg
    refine ⟨S m, β, hQ, hmono 0 m (by omega) (Nat.le_refl _), ⟨hi.defers, hi.size, fun t v ht => hi.tmp t v (by rw [e1]; exact ht), hs, ?_⟩, hg⟩
    intro x hx
    cases hb : β x with
    | none => rfl
    | some l =>
      rcases hi.names x l hb with g | ⟨i, g1, _, g3, g4⟩
      · have := hmono 0 m (by omega) (Nat.le_refl _); omega
      · have := hmono (i + 1) m (by omega) (Nat.le_refl _); omega
  -- nobody can be taken: all are
  have stuck : ∀ (listed : Array Bool), listed.size = m → Region.ready .any ops listed = [] → ∀ i, i < m → listed[i]? = some true := by
    intro listed hsz hr i
    induction i using Nat.strongRecOn with
    | _ i ih =>
      intro hi
      cases hli : listed[i]? with
      | none => rw [Array.getElem?_eq_none_iff] at hli; omega
      | some b =>
        cases b with
        | true => rfl
        | false =>
          exfalso
          have ho : ops.toList[i]? = some (ops.toList[i]'(by omega)) := List.getElem?_eq_getElem (by omega)
          have hmem : i ∈ Region.ready .any ops listed := by
            unfold Region.ready
            rw [List.mem_filter]
            refine ⟨by simp at hm; simp; omega, ?_⟩
            have ho' : ops[i]? = some (ops.toList[i]'(by omega)) := by simp
            simp only [Array.getD_eq_getD_getElem?, hli, Option.getD_some, Bool.not_false, Bool.true_and, ho', Option.map_some]
            rw [Array.all_eq_true_iff_forall_mem]
            intro e he
            cases hb : Region.binds .any e with
            | false => rfl
            | true =>
              have hd : e.on ∈ depsOf (ops.toList[i]'(by omega)) := by
                unfold depsOf
                exact List.mem_map.2 ⟨e, List.mem_filter.2 ⟨by simpa using he, hb⟩, rfl⟩
              have hlt := (hst i _ ho).1 e.on hd
              rw [ih e.on hlt (by omega)]
              rfl
          rw [hr] at hmem
          simp at hmem
  intro fuel
  induction fuel with
  | zero =>
    intro listed a w β hsz hcount hcl hi
    have hall : ∀ i, i < m → listed[i]? = some true := by
      intro i hi
      have h0 : false ∉ listed.toList := List.count_eq_zero.mp (by omega)
      have : listed[i]? = some (listed[i]'(by omega)) := Array.getElem?_eq_getElem (by omega)
      rw [this]
      cases hb : listed[i]'(by omega) with
      | true => rfl
      | false => exact absurd (by rw [← hb]; simp) h0
    refine ⟨?_, fin listed a w β hall hi⟩
    unfold Region.ready
    rw [List.filter_eq_nil_iff]
    intro i hir
    have him : i < m := by simp at hir hm; omega
    simp [hall i him]
  | succ fuel ih =>
    intro listed a w β hsz hcount hcl hi
    refine ⟨fun hr => fin listed a w β (stuck listed hsz hr) hi, fun i hir => ?_⟩
    unfold Region.ready at hir
    rw [List.mem_filter] at hir
    obtain ⟨hir1, hir2⟩ := hir
    have him : i < m := by simp at hir1 hm; omega
    have ho : ops.toList[i]? = some (ops.toList[i]'(by omega)) := List.getElem?_eq_getElem (by omega)
    have ho' : ops[i]? = some (ops.toList[i]'(by omega)) := by simp
    simp only [Bool.and_eq_true, ho', Option.map_some, Option.getD_some] at hir2
    obtain ⟨hl, hdeps⟩ := hir2
    have hli : listed[i]? = some false := by
      have e : listed[i]? = some (listed[i]'(by omega)) := Array.getElem?_eq_getElem (by omega)
      simp only [Array.getD_eq_getD_getElem?, e, Option.getD_some] at hl
      rw [e]
      cases hb : listed[i]'(by omega) with
      | false => rfl
      | true => rw [hb] at hl; simp at hl
    have hdT : ∀ d ∈ depsOf (ops.toList[i]'(by omega)), listed[d]? = some true := by
      intro d hd
      unfold depsOf at hd
      obtain ⟨e, he, rfl⟩ := List.mem_map.1 hd
      obtain ⟨he1, he2⟩ := List.mem_filter.1 he
      rw [Array.all_eq_true_iff_forall_mem] at hdeps
      have := hdeps e (by simpa using he1)
      rw [he2] at this
      simp only [Bool.not_true, Bool.false_or, Array.getD_eq_getD_getElem?] at this
      cases hb : listed[e.on]? with
      | none => rw [hb] at this; simp at this
      | some b => rw [hb] at this; simp at this; rw [this]
    refine Inv.step (P := P) hm hL (fun a b => a < b ∧ (ms.getD b 0).testBit a = true) ?_ hlt0T hlt0H hi him (by rw [hli]; simp) ?_ ?_ ?_
    · intro a b hab hb
      by_cases hbit : (ms.getD b 0).testBit a = true
      · exact .inl ⟨hab, hbit⟩
      · refine .inr ⟨(hpair a b hab hb).resolve_left hbit, fun oa ob hoa hob => ((hst b ob hob).2 a oa hab hoa).resolve_left hbit⟩
    · rintro p ⟨hp1, hp2⟩
      exact hmask (fun i => listed[i]? = some true) hcl i _ ho hdT p hp2
    · rintro p ⟨hp1, hp2⟩ hTp
      have hpm : p < m := by
        have := (Array.getElem?_eq_some_iff.mp hTp).1
        omega
      have hop : ops.toList[p]? = some (ops.toList[p]'(by omega)) := List.getElem?_eq_getElem (by omega)
      have := hmask (fun i => listed[i]? = some true) hcl p _ hop (hcl p _ hop hTp) i hp2
      rw [hli] at this
      simp at this
    · intro β' a' w' hi'
      have hset : ∀ k, (listed.setIfInBounds i true)[k]? = some true ↔ (listed[k]? = some true ∨ k = i) := by
        intro k
        rw [Array.getElem?_setIfInBounds]
        by_cases e : i = k
        · subst e
          rw [if_pos rfl, if_pos (by omega)]
          simp
        · rw [if_neg e]
          simp [show k ≠ i from fun h => e h.symm]
      refine ih (listed.setIfInBounds i true) a' w' β' (by simp [hsz]) ?_ ?_ (hi'.congr fun p _ => (hset p).symm)
      · rw [Array.toList_setIfInBounds, List.count_set (by simp; omega)]
        have hb : (listed.toList[i]'(by simp; omega)) = false := by
          have := hli
          rw [Array.getElem?_eq_getElem (by omega)] at this
          simpa using Option.some.inj this
        rw [hb, if_pos (by decide), if_neg (by decide)]
        omega
      · intro q o hq hTq d hd
        rw [hset] at hTq ⊢
        rcases hTq with g | rfl
        · exact .inl (hcl q o hq g d hd)
        · rw [ho] at hq
          obtain rfl := Option.some.inj hq
          exact .inl (hdT d hd)

/-- A region whose order is drawn: one run in the order of the text is enough, if what is not ordered does not disturb it. -/
theorem W.regionD {N : Nat} {id : Nat} {ops : Array Oper} {s : St} {Q : Exit → St → Prop} (ms : List Nat) (hP : P.follows .mixedOrders = true) (hstatic : staticOk ops ms = true)
    (h : wopsD P N ops ops.toList ms 0 [] s (Q .normal)) : W P N (.region id ops true) s Q := by
  intro β a w hr
  obtain ⟨S, need, dom, hS, hL, hPr, _, hK⟩ := wopsD_trace (P := P) (ops := ops) (ms := ms) (K := Q .normal) ops.toList 0 [] s (by simp) (by simpa using h) (by simp)
  subst hS
  have hK' : Q .normal (S ops.toList.length) := by
    rw [Nat.zero_max] at hK; exact hK
  refine wp_region_any hP ?_
  have key := any_sound (P := P) (N := N) (m := ops.toList.length) (β0 := β) (w0 := w) (Q := Q) rfl (fun q o ho => hL q o (Nat.zero_le _) ho) hstatic (fun a b hab hb => hPr a b (Nat.zero_le _) hab hb)
    (fun t v ht => by obtain ⟨u, _, huv⟩ := hr.tmp t v ht; exact huv.lt hr.fresh)
    (fun x b hx => by obtain ⟨l, _, hk⟩ := hr.sat.ok x b hx; exact hk.blkLt hr.fresh) hK' ops.size (Array.replicate ops.size false) a { w with drawn := w.drawn + 1 } β (by simp) (by simp)
    (fun i o _ hi => by simp [Array.getElem?_replicate] at hi)
  refine key ?_
  have hnone : ∀ p, p < ops.toList.length → ¬ ((Array.replicate ops.size false)[p]? = some true) := fun p _ h => by simp [Array.getElem?_replicate] at h
  have e1 : ∀ t, mix (fun j t => get (S j).ts t) (fun j t => ∃ o, ops.toList[j]? = some o ∧ o.dst = some t) (fun i => (Array.replicate ops.size false)[i]? = some true) ops.toList.length t = get (S 0).ts t := fun t =>
    mix_none (S := fun j t => get (S j).ts t) hnone
  have e2 : mix (fun j => (S j).H) dom (fun i => (Array.replicate ops.size false)[i]? = some true) ops.toList.length = (S 0).H := funext fun x => mix_none (S := fun j => (S j).H) hnone
  refine ⟨hr.defers, hr.size, fun t v ht => hr.tmp t v (by rw [e1] at ht; exact ht), ?_, fun x l hx => ?_, fun i hi hT => absurd hT (hnone i hi), fun i hi hT => absurd hT (hnone i hi), ?_⟩
  · rw [e2]; exact hr.sat.same rfl
  · rcases Nat.lt_or_ge x (S 0).n with g | g
    · exact .inl g
    · rw [hr.fresh x g] at hx; simp at hx
  · rw [e2]
    have g := Grow.refl (S 0).H w hr.fresh
    exact ⟨g.names, rfl, rfl, rfl, Nat.le_refl _, fun _ _ _ => rfl, g.own, g.dom⟩

end Go.Sep
/- The rules that a walk uses, in the form in which it uses them. -/
namespace Go.Sep
open Go
set_option linter.unusedVariables false
set_option linter.unusedSimpArgs false

variable {P : Program} {N : Nat} {s : St} {Q : Exit → St → Prop}

/-- Without the temporaries that serve one region alone. -/
def dropT (D : List Nat) : Temps → Temps
  | [] => []
  | (k, v) :: r => if k ∈ D then dropT D r else (k, v) :: dropT (k :: D) r

theorem get_dropT {t : Nat} {v : Value} : ∀ {ts : Temps} {D : List Nat}, get (dropT D ts) t = some v → t ∉ D ∧ get ts t = some v
  | [], D, h => by simp [dropT, get] at h
  | (k, u) :: r, D, h => by
    simp only [dropT] at h
    split at h
    · rename_i hk
      obtain ⟨h1, h2⟩ := get_dropT h
      refine ⟨h1, ?_⟩
      simp only [get]
      rw [if_neg (show ¬ k = t from fun e => h1 (by rw [← e]; exact hk))]
      exact h2
    · rename_i hk
      simp only [get] at h ⊢
      split at h
      · rename_i e; subst e; exact ⟨hk, by rw [if_pos rfl]; exact h⟩
      · rename_i e
        obtain ⟨h1, h2⟩ := get_dropT h
        simp at h1
        exact ⟨h1.2, by rw [if_neg e]; exact h2⟩

theorem Less.drop (D : List Nat) (ts : Temps) (H : Heap) (n : Nat) : Less ⟨dropT D ts, H, n⟩ ⟨ts, H, n⟩ :=
  { ts := fun t v ht => (get_dropT (D := D) ht).2, heap := Heap.le.refl _, n := Nat.le_refl _ }

theorem W.drop {c : Code} (D : List Nat) {ts : Temps} {H : Heap} {n : Nat} (h : W P N c ⟨dropT D ts, H, n⟩ Q) : W P N c ⟨ts, H, n⟩ Q :=
  W.less (Less.drop D ts H n) h

theorem W.seqR {id : Nat} {ops : Array Oper} {d : Code} (D : List Nat)
    (h : ∀ K : St → Prop, (∀ ts H n, W P N d ⟨dropT D ts, H, n⟩ Q → K ⟨ts, H, n⟩) → wops P N ops ops.toList s K) : W P N ((Code.region id ops false).seq d) s Q :=
  W.seq (W.region (h _ fun ts H n hh => W.drop D hh))

theorem W.regR {id : Nat} {ops : Array Oper} (D : List Nat)
    (h : ∀ K : St → Prop, (∀ ts H n, Q .normal ⟨dropT D ts, H, n⟩ → K ⟨ts, H, n⟩) → wops P N ops ops.toList s K) : W P N (Code.region id ops false) s Q :=
  W.post (W.region (h _ fun ts H n hh => ⟨_, Less.drop D ts H n, hh⟩))

theorem W.seqD {id : Nat} {ops : Array Oper} {d : Code} (D : List Nat) (ms : List Nat) (hP : P.follows .mixedOrders = true) (hs : staticOk ops ms = true)
    (h : ∀ K : St → Prop, (∀ ts H n, W P N d ⟨dropT D ts, H, n⟩ Q → K ⟨ts, H, n⟩) → wopsD P N ops ops.toList ms 0 [] s K) : W P N ((Code.region id ops true).seq d) s Q :=
  W.seq (W.regionD ms hP hs (h _ fun ts H n hh => W.drop D hh))

theorem W.regD {id : Nat} {ops : Array Oper} (D : List Nat) (ms : List Nat) (hP : P.follows .mixedOrders = true) (hs : staticOk ops ms = true)
    (h : ∀ K : St → Prop, (∀ ts H n, Q .normal ⟨dropT D ts, H, n⟩ → K ⟨ts, H, n⟩) → wopsD P N ops ops.toList ms 0 [] s K) : W P N (Code.region id ops true) s Q :=
  W.post (W.regionD ms hP hs (h _ fun ts H n hh => ⟨_, Less.drop D ts H n, hh⟩))

theorem W.condT {c : Operand} {x y : Code} (hc : ev s.ts c = some (.bool true)) (h : W P N x s Q) : W P N (.cond c x y) s Q := W.cond hc h
theorem W.condF {c : Operand} {x y : Code} (hc : ev s.ts c = some (.bool false)) (h : W P N y s Q) : W P N (.cond c x y) s Q := W.cond hc h

theorem W.skipT {K : St → Prop} (h : K s) : W P N .skip s (thenS K Q) := W.skip h


/-! ### The end of a body -/

/-- The heap as it was; what is handed back names nothing new. -/
theorem Ends.r0 {fn : Func} {H : Heap} {n : Nat} {v : Value} (hle : ∀ x b, x < n → H x = some b → s.H x = some b) (hH : ∀ x, n ≤ x → H x = none) (hv : ltT n v = true) (hres : resOf P s fn.results.toList = some v) :
    Ends P fn H n s v H n :=
  ⟨id, fun _ _ => rfl, by rw [hres]; congr 1; exact (renT_id v).symm, hv, fun x b hx => by
    have hlt : x < n := by
      rcases Nat.lt_or_ge x n with g | g
      · exact g
      · rw [hH x g] at hx; simp at hx
    exact .inl ⟨hlt, hx, hle x b hlt hx⟩, fun x y _ _ h => h⟩

/-- No names. -/
def plainA : Value → Bool
  | .pointer (some _) | .slice (some _) _ _ | .map (some _) | .func _ _ _ | .agg _ | .tuple _ => false
  | _ => true

theorem plainA_ren {ρ : Nat → Nat} {v : Value} (h : plainA v = true) : renC ρ v = v ∧ ∀ n, ltC n v = true := by
  cases v <;> simp [plainA] at h <;> first | exact ⟨rfl, fun _ => rfl⟩ | skip
  · rename_i a; cases a <;> simp at h; exact ⟨rfl, fun _ => rfl⟩
  · rename_i a _ _; cases a <;> simp at h; exact ⟨rfl, fun _ => rfl⟩
  · rename_i a; cases a <;> simp at h; exact ⟨rfl, fun _ => rfl⟩

theorem plain_ren {ρ : Nat → Nat} {cs : List Value} (h : cs.all plainA = true) (n : Nat) : cs = cs.map (renC ρ) ∧ cs.all (ltC n) = true := by
  rw [List.all_eq_true] at h
  refine ⟨?_, List.all_eq_true.mpr fun v hv => (plainA_ren (ρ := ρ) (h v hv)).2 n⟩
  calc cs = cs.map id := (List.map_id _).symm
    _ = cs.map (renC ρ) := List.map_congr_left fun v hv => (plainA_ren (h v hv)).1.symm

/-- One new block without names in it. -/
def one (n m : Nat) : Nat → Nat := fun x => if x = n then m else x

theorem Ends.r1 {fn : Func} {H : Heap} {n : Nat} {v : Value} (m : Nat) (cs : List Value) (hm : n ≤ m) (hle : ∀ x b, x < n → H x = some b → s.H x = some b) (hH : ∀ x, n ≤ x → H x = none)
    (hb : s.H m = some (.cells false cs)) (hp : cs.all plainA = true) (hv : ltT (n + 1) v = true) (hres : resOf P s fn.results.toList = some (renT (one n m) v)) :
    Ends P fn H n s v (H.set n (.cells false cs)) (n + 1) :=
  ⟨one n m, fun x hx => by simp [one]; omega, hres, hv, fun x b hx => by
    by_cases e : x = n
    · subst e
      rw [Heap.set_same] at hx
      obtain rfl := Option.some.inj hx
      refine .inr ⟨by omega, ?_⟩
      simp only [one, if_true, hb]
      exact ⟨rfl, plain_ren hp _⟩
    · rw [Heap.set_ne _ _ e] at hx
      have hlt : x < n := by
        rcases Nat.lt_or_ge x n with g | g
        · exact g
        · rw [hH x g] at hx; simp at hx
      exact .inl ⟨hlt, hx, hle x b hlt hx⟩, fun x y hx hy hxy => by
    simp only [one]
    by_cases e1 : x = n <;> by_cases e2 : y = n <;> simp [e1, e2] <;> omega⟩

/-- Heaps that go on telling what they told. -/
theorem set_old {H G : Heap} {n x : Nat} {b : Blk} (h : ∀ y c, y < n → H y = some c → G y = some c) (hx : n ≤ x) : ∀ y c, y < n → H y = some c → (G.set x b) y = some c := fun y c hy hc => by
  rw [Heap.set_ne _ _ (by omega)]; exact h y c hy hc
theorem del_old {H G : Heap} {n x : Nat} (h : ∀ y c, y < n → H y = some c → G y = some c) (hx : n ≤ x) : ∀ y c, y < n → H y = some c → (G.del x) y = some c := fun y c hy hc => by
  unfold Heap.del; rw [if_neg (by omega)]; exact h y c hy hc
theorem self_old {H : Heap} {n : Nat} : ∀ y c, y < n → H y = some c → H y = some c := fun _ _ _ h => h

theorem Fn.intro' {f : FuncId} {fn : Func} {c : Code} {args : List Value} {H H' : Heap} {n n' : Nat} {v : Value} (hf : P.funcs[f]? = some fn) (hb : fn.body = some c)
    (hname : (fn.name == "runtime.NumGoroutine") = false) {N : Nat} (hN : fn.ntmps = N) (ha : args.length ≤ N) (hn : n ≤ n')
    (h : (∀ x, n ≤ x → H x = none) → W P N c ⟨(List.range args.length).zip args, H, n⟩ fun e s => (e = .normal ∨ e = .ret) ∧ Ends P fn H n s v H' n') : Fn P f args H n v H' n' := by
  subst hN
  exact Fn.intro hf hb hname ha hn (W.fresh h)

/-- A function of which a block is known to be named before. -/
theorem Fn.below {f : FuncId} {args : List Value} {H H' : Heap} {n n' : Nat} {v : Value} (hn : ∀ fn, P.funcs[f]? = some fn → True) {b : Nat} {c : Blk} (hb : H b = some c)
    (h : b < n → Fn P f args H n v H' n') (h0 : (∃ fn, P.funcs[f]? = some fn ∧ fn.body.isSome = true ∧ (fn.name == "runtime.NumGoroutine") = false) ∧ n ≤ n') : Fn P f args H n v H' n' := by
  refine ⟨h0.1, h0.2, fun β cargs w hargs hs hf => ?_⟩
  have hlt : b < n := by
    rcases Nat.lt_or_ge b n with g | g
    · exact g
    · obtain ⟨l, hl, _⟩ := hs.ok b c hb
      rw [hf b g] at hl; simp at hl
  exact (h hlt).2.2 β cargs w hargs hs hf

end Go.Sep
/- A law's arguments: from what a claim hands to the machine to names and lists of numbers; and back from a function's triple to what the claim asks. -/
namespace Go.Sep
open Go
set_option linter.unusedVariables false
set_option linter.unusedSimpArgs false

variable {P : Program}

def ints (zs : List Int) : List Value := zs.map (Value.int .i64)
def good (zs : List Int) : Prop := ∀ z ∈ zs, -9223372036854775808 ≤ z ∧ z ≤ 9223372036854775807

theorem wf_i64 {z : Int} (h : (Lit.int .i64 z).wf = true) : -9223372036854775808 ≤ z ∧ z ≤ 9223372036854775807 := by
  simp [Lit.wf, IntKind.min, IntKind.max, IntKind.signed, IntKind.bits] at h
  omega

theorem ints_of : ∀ {cs : List Value} {n : Nat}, cs.length = n → (∀ i, i < n → ∃ z, cs[i]? = some (.int .i64 z) ∧ (Lit.int .i64 z).wf = true) → ∃ zs, zs.length = n ∧ cs = ints zs ∧ good zs
  | [], _, rfl, _ => ⟨[], rfl, rfl, by simp [good]⟩
  | c :: cs, _, rfl, h => by
    obtain ⟨z, hz, hw⟩ := h 0 (by simp)
    simp at hz
    obtain ⟨zs, h1, h2, h3⟩ := ints_of (cs := cs) rfl fun i hi => by
      obtain ⟨z, hz, hw⟩ := h (i + 1) (by simp; omega)
      exact ⟨z, by simpa using hz, hw⟩
    refine ⟨z :: zs, by simp [h1], by simp [ints, hz]; exact h2, ?_⟩
    intro y hy
    rcases List.mem_cons.mp hy with rfl | hy
    · exact wf_i64 hw
    · exact h3 y hy

/-- A type of `k` cells, all of them int's. -/
def FlatT (P : Program) (t : TypeId) (k : Nat) : Prop :=
  P.cellsOf t = k ∧ ∀ (H : Type) (enc : TypeId × Value → H) (w : World) (base : Nat) (spare : Nat → Bool) (held : Bool) (fuel : Nat) (cs : List Value) (x : DataW H × List MemPlace),
    DataW.trod enc P w base spare held fuel t cs = some x → ∃ zs, zs.length = k ∧ cs = ints zs ∧ good zs

theorem FlatT.int {t : TypeId} (ht : P.underlying t = some (.int .i64)) (hc : P.cellsOf t = 1) : FlatT P t 1 :=
  ⟨hc, fun H enc w base spare held fuel cs x h => by
    obtain ⟨z, rfl, _, hw⟩ := DataW.trod_int ht h
    exact ⟨[z], rfl, rfl, by intro y hy; simp at hy; exact hy ▸ wf_i64 hw⟩⟩

theorem FlatT.array {t e : TypeId} {n : Nat} (ht : P.underlying t = some (.array n e)) (he : P.underlying e = some (.int .i64)) (hc : P.cellsOf t = n) (hce : P.cellsOf e = 1) : FlatT P t n :=
  ⟨hc, fun H enc w base spare held fuel cs x h => by
    obtain ⟨xs, m, _, _, hl, hx, hel⟩ := DataW.trod_array ht h
    refine ints_of (hl.trans hc) fun i hi => ?_
    have h1 := hel i hi
    rw [hce, Nat.mul_one, List.getElem?_eq_getElem (by omega)] at h1
    obtain ⟨z, hz, _, hw⟩ := DataW.trod_int he h1
    refine ⟨z, ?_, hw⟩
    have h0 : ((cs.drop i).take 1)[0]? = some (.int .i64 z) := by rw [hz]; rfl
    simpa using h0⟩

theorem list_of {R : Nat → Int → Prop} : ∀ (n : Nat), (∀ i, i < n → ∃ z, R i z) → ∃ zs : List Int, zs.length = n ∧ ∀ i z, zs[i]? = some z → R i z
  | 0, _ => ⟨[], rfl, by simp⟩
  | n + 1, h => by
    obtain ⟨zs, h1, h2⟩ := list_of n fun i hi => h i (by omega)
    obtain ⟨z, hz⟩ := h n (by omega)
    refine ⟨zs ++ [z], by simp [h1], fun i y hy => ?_⟩
    rcases Nat.lt_or_ge i n with g | g
    · rw [List.getElem?_append_left (by omega)] at hy; exact h2 i y hy
    · rw [List.getElem?_append_right (by omega)] at hy
      have : i - zs.length = 0 := by
        rcases Nat.eq_zero_or_pos (i - zs.length) with q | q
        · exact q
        · rw [List.getElem?_eq_none (by simp; omega)] at hy; simp at hy
      rw [this] at hy
      simp at hy
      have : i = n := by omega
      subst this; exact hy ▸ hz

/-- A slice of a claim's argument: its numbers, `k` of them an element. -/
def SlIn (w : World) (k : Nat) (v : Value) (zs : List Int) : Prop :=
  (zs = [] ∧ ∃ A c, v = .slice A 0 c) ∨
  ∃ a len cap, v = .slice (some a) len cap ∧ (0 < len ∧ len ≤ 9223372036854775807) ∧ len ≤ cap ∧ zs.length = len * k ∧ a.spot = none ∧ (∀ i z, zs[i]? = some z → w.cell? ⟨a.block, a.off + i, none⟩ = some (.int .i64 z)) ∧
    (∀ i, i < cap * k → (w.cell? ⟨a.block, a.off + i, none⟩).isSome = true)

theorem cells_get {w : World} {a : Addr} {n : Nat} {cs : List Value} (h : w.cells? 0 a n = some cs) : cs.length = n ∧ ∀ i, i < n → w.cell? (a.add i) = cs[i]? := by
  unfold World.cells? at h
  rw [if_pos (Nat.zero_le _)] at h
  exact ⟨by simpa using mapM_some_length h, fun i hi => mapM_some_get h i i (by simp [hi])⟩

theorem add_eq {w : World} {a : Addr} {n : Nat} {v : Value} (h : w.cell? (a.add n) = some v) : w.cell? ⟨a.block, a.off + n, none⟩ = some v := by
  unfold Addr.add at h
  split at h
  · subst_vars
    unfold World.cell? at h ⊢
    split at h
    · rename_i hh
      split at h
      · simp at h
      · simp [hh]; exact h
    · simp at h
  · exact h

theorem open_flat {H : Type} {enc : TypeId × Value → H} {w : World} {held : Bool} {fuel k : Nat} {t e : TypeId} {cs : List Value} {x : DataW H × List MemPlace} (hk : 0 < k)
    (ht : P.underlying t = some (.slice e)) (he : FlatT P e k) (h : DataW.trod enc P w 0 (fun _ => true) held fuel t cs = some x) : ∃ v zs, cs = [v] ∧ SlIn w k v zs ∧ good zs := by
  rcases DataW.trod_slice ht h with ⟨rfl, _⟩ | ⟨a, len, cap, elems, rest, n, _, rfl, _, _, hl, hmax, hlen, hel, hsp, _⟩
  · exact ⟨_, [], rfl, .inl ⟨rfl, _, _, rfl⟩, by simp [good]⟩
  obtain ⟨hrl, hr⟩ := hsp rfl
  have one : ∀ i, i < cap → ∃ cs, w.cells? 0 (a.add (i * k)) k = some cs ∧ ∃ zs, zs.length = k ∧ cs = ints zs ∧ good zs := by
    intro i hi
    have h2 : ∃ y, (w.cells? 0 (a.add (i * P.cellsOf e)) (P.cellsOf e)).bind (DataW.trod enc P w 0 (fun _ => true) held n e) = some y := by
      by_cases g : i < len
      · exact ⟨_, (hel i g).trans (List.getElem?_eq_getElem (by omega))⟩
      · have := hr (i - len) (by omega)
        rw [show len + (i - len) = i by omega] at this
        exact ⟨_, this.trans (List.getElem?_eq_getElem (by omega))⟩
    obtain ⟨y, hy⟩ := h2
    rw [Option.bind_eq_some_iff] at hy
    obtain ⟨cs, hc, hd⟩ := hy
    rw [he.1] at hc
    exact ⟨cs, hc, he.2 _ _ _ _ _ _ _ _ _ hd⟩
  have cell : ∀ q, q < cap * k → ∃ z, w.cell? ⟨a.block, a.off + q, none⟩ = some (.int .i64 z) ∧ (-9223372036854775808 ≤ z ∧ z ≤ 9223372036854775807) := by
    intro q hq
    obtain ⟨cs, hc, zs, hz, rfl, hg⟩ := one (q / k) (Nat.div_lt_of_lt_mul (by rwa [Nat.mul_comm]))
    obtain ⟨_, h2⟩ := cells_get hc
    have hm := Nat.mod_lt q hk
    have h3 := h2 (q % k) hm
    obtain ⟨z, hz0⟩ : ∃ z, zs[q % k]? = some z := ⟨_, List.getElem?_eq_getElem (show q % k < zs.length by omega)⟩
    have hz' : (ints zs)[q % k]? = some (.int .i64 z) := by simp [ints, hz0]
    rw [hz'] at h3
    refine ⟨z, ?_, hg _ (List.mem_of_getElem? hz0)⟩
    have h4 : w.cell? ((⟨a.block, a.off + q / k * k, none⟩ : Addr).add (q % k)) = some (.int .i64 z) := by
      unfold Addr.add at h3
      by_cases g0 : q / k * k = 0
      · rw [if_pos g0] at h3
        have := add_eq (a := a) (n := q % k) h3
        rw [g0]
        unfold Addr.add
        split
        · rename_i e1; rw [e1] at this; exact this
        · exact this
      · rw [if_neg g0] at h3; exact h3
    have h5 := add_eq h4
    rw [show a.off + q = a.off + q / k * k + q % k by have := Nat.div_add_mod q k; rw [Nat.mul_comm] at this; omega]
    exact h5
  rcases Nat.eq_zero_or_pos len with rfl | hpos
  · exact ⟨_, [], rfl, .inl ⟨rfl, _, _, rfl⟩, by simp [good]⟩
  have hle : len * k ≤ cap * k := Nat.mul_le_mul_right _ hl
  obtain ⟨zs, hz, hzs⟩ := list_of (R := fun q z => w.cell? ⟨a.block, a.off + q, none⟩ = some (.int .i64 z) ∧ (-9223372036854775808 ≤ z ∧ z ≤ 9223372036854775807)) (len * k) fun q hq => cell q (by omega)
  refine ⟨_, zs, rfl, .inr ⟨a, len, cap, rfl, ⟨hpos, by unfold maxLen at hmax; omega⟩, hl, hz, ?_, fun i z hi => (hzs i z hi).1, fun i hi => by obtain ⟨z, h1, _⟩ := cell i hi; rw [h1]; rfl⟩, fun z hz => ?_⟩
  · obtain ⟨cs, hc, zs', hz', rfl, _⟩ := one 0 (by omega)
    have h2 := (cells_get hc).2 0 hk
    rw [Nat.zero_mul] at h2
    have h3 : (a.add 0).add 0 = a := rfl
    rw [h3] at h2
    obtain ⟨z0, hz0⟩ : ∃ z, zs'[0]? = some z := ⟨_, List.getElem?_eq_getElem (show 0 < zs'.length by omega)⟩
    have h4 : (ints zs')[0]? = some (.int .i64 z0) := by simp [ints, hz0]
    rw [h4] at h2
    unfold World.cell? at h2
    split at h2
    · split at h2
      · simp at h2
      · rename_i hh; cases hs : a.spot <;> simp_all
    · simp at h2
  · obtain ⟨i, hi, rfl⟩ := List.getElem_of_mem hz
    exact (hzs i _ (List.getElem?_eq_getElem hi)).2

theorem All2.self_ints (β : Names) (zs : List Int) : All2 (VC β) (ints zs).toArray.toList (ints zs).toArray.toList := by
  simp only [ints]
  induction zs with
  | nil => exact trivial
  | cons z zs ih => exact ⟨rfl, ih⟩

theorem VA_ints (β : Names) (zs : List Int) : VA β (.agg (ints zs).toArray) (.agg (ints zs).toArray) := ⟨_, rfl, All2.self_ints β zs⟩
theorem VA_heap {β : Names} {X Y Z : Int} {c u : Value} (h : VC β c u) : VA β (.agg #[.int .i64 X, .int .i64 Y, .int .i64 Z, c]) (.agg #[.int .i64 X, .int .i64 Y, .int .i64 Z, u]) :=
  ⟨#[.int .i64 X, .int .i64 Y, .int .i64 Z, u], rfl, rfl, rfl, rfl, h, trivial⟩
theorem VA_shadow {β : Names} {X Y Z : Int} {c u c' u' c'' u'' : Value} (h : VC β c u) (h' : VC β c' u') (h'' : VC β c'' u'') :
    VA β (.agg #[.int .i64 X, .int .i64 Y, .int .i64 Z, c, c', c'']) (.agg #[.int .i64 X, .int .i64 Y, .int .i64 Z, u, u', u'']) :=
  ⟨#[.int .i64 X, .int .i64 Y, .int .i64 Z, u, u', u''], rfl, rfl, rfl, rfl, h, h', h'', trivial⟩

theorem VC_VA {β : Names} {c v : Value} (h : VC β c v) : VA β c v := VA.of_VC h

/-! ### Names for the arguments -/

structure Args (W : World) (β : Names) (H : Heap) (n : Nat) : Prop where
  sat : Sat β H W
  fresh : ∀ x, n ≤ x → β x = none
  ro : ∀ x b, H x = some b → b.rw = false

theorem Args.start (W : World) : Args W (fun _ => none) (fun _ => none) 0 :=
  ⟨⟨fun _ _ h => by simp at h, fun _ _ _ _ _ _ _ h => by simp at h⟩, fun _ _ => rfl, fun _ _ h => by simp at h⟩

/-- A slice that a law was handed: its numbers. -/
def RowV (H : Heap) (n k : Nat) (s : Value) (zs : List Int) : Prop :=
  (zs = [] ∧ s = .slice none 0 2) ∨ ∃ b len, b < n ∧ s = .slice (some ⟨b, 0, none⟩) len k ∧ (0 < len ∧ len ≤ 9223372036854775807) ∧ zs.length = len * k ∧ H b = some (.cells true (ints zs))

theorem RowV.mono {H H' : Heap} {n n' k : Nat} {s : Value} {zs : List Int} (h : RowV H n k s zs) (hl : H.le H') (hn : n ≤ n') : RowV H' n' k s zs := by
  rcases h with h | ⟨b, len, h1, h2, h3, h4, h5⟩
  · exact .inl h
  · exact .inr ⟨b, len, by omega, h2, h3, h4, hl _ _ h5⟩

theorem Args.row {W : World} {β : Names} {H : Heap} {n k : Nat} {v : Value} {zs : List Int} (ha : Args W β H n) (hs : SlIn W k v zs) (hk : 0 < k) :
    ∃ β' H' n' cv, Args W β' H' n' ∧ β.le β' ∧ H.le H' ∧ n ≤ n' ∧ VC β' cv v ∧ RowV H' n' k cv zs := by
  rcases hs with ⟨rfl, A, c, rfl⟩ | ⟨a, len, cap, rfl, h0, h1, h2, h3, h4, h5⟩
  · exact ⟨β, H, n, .slice none 0 2, ha, fun _ _ h => h, Heap.le.refl _, Nat.le_refl _, ⟨rfl, .inr (.inr ⟨rfl, A, c, rfl⟩)⟩, .inl ⟨rfl, rfl⟩⟩
  have hcap : 0 < cap * k := Nat.mul_pos (by omega) hk
  obtain ⟨cs, el, fz, hb⟩ : ∃ c el fz, W.heap[a.block]? = some (.cells c el fz) := by
    have := h5 0 hcap
    unfold World.cell? at this
    split at this
    · exact ⟨_, _, _, by assumption⟩
    · simp at this
  have hroom : a.off + cap * k ≤ cs.size := by
    have := h5 (cap * k - 1) (by omega)
    simp only [World.cell?, hb] at this
    simp at this
    omega
  have hle : β.le (β.set n ⟨a.block, a.off, cs.size⟩) := fun x l hx => by
    unfold Names.set
    rw [if_neg (fun e => by rw [e, ha.fresh n (Nat.le_refl _)] at hx; simp at hx)]
    exact hx
  have hH : ∀ x, n ≤ x → H x = none := fun x hx => by
    cases hh : H x with
    | none => rfl
    | some b =>
      obtain ⟨l, hl, _⟩ := ha.sat.ok x b hh
      rw [ha.fresh x hx] at hl; simp at hl
  have hlk : len * k ≤ cap * k := Nat.mul_le_mul_right _ h1
  refine ⟨β.set n ⟨a.block, a.off, cs.size⟩, H.set n (.cells true (ints zs)), n + 1, .slice (some ⟨n, 0, none⟩) len k, ⟨⟨?_, ?_⟩, ?_, ?_⟩, hle, ?_, Nat.le_succ _, ?_, ?_⟩
  · intro x b hx
    by_cases e : x = n
    · subst e
      rw [Heap.set_same] at hx
      obtain rfl := Option.some.inj hx
      refine ⟨⟨a.block, a.off, cs.size⟩, by simp [Names.set], cs, el, fz, hb, rfl, by simp [ints]; omega, fun i v hv => ?_, by simp⟩
      have hi : i < zs.length := by
        have := (List.getElem?_eq_some_iff.mp hv).1
        simpa [ints] using this
      have hv' : (ints zs)[i]? = some (.int .i64 zs[i]) := by simp [ints]
      rw [hv'] at hv
      obtain rfl := Option.some.inj hv
      have := h4 i _ (List.getElem?_eq_getElem hi)
      simp only [World.cell?, hb] at this
      exact ⟨_, by simpa using this, rfl⟩
    · rw [Heap.set_ne _ _ e] at hx
      obtain ⟨l, hl, hbk⟩ := ha.sat.ok x b hx
      exact ⟨l, hle _ _ hl, hbk.names hle⟩
  · intro x y b c l m hxy hx hy hrw
    exfalso
    by_cases e : x = n
    · subst e
      rw [Heap.set_same] at hx
      obtain rfl := Option.some.inj hx
      simp [Blk.rw] at hrw
    · rw [Heap.set_ne _ _ e] at hx
      rw [ha.ro x b hx] at hrw; simp at hrw
  · intro x hx
    simp only [Names.set]
    rw [if_neg (by omega)]
    exact ha.fresh x (by omega)
  · intro x b hx
    by_cases e : x = n
    · subst e
      rw [Heap.set_same] at hx
      obtain rfl := Option.some.inj hx
      rfl
    · rw [Heap.set_ne _ _ e] at hx
      exact ha.ro x b hx
  · intro x b hx
    rw [Heap.set_ne]
    · exact hx
    · intro e; rw [e, hH n (Nat.le_refl _)] at hx; simp at hx
  · refine ⟨⟨a.block, a.off, cs.size⟩, cap, by simp [Names.set], rfl, h1, by simpa using hroom, ?_⟩
    cases a; simp at h3; simp [h3]
  · exact .inr ⟨n, len, by omega, rfl, h0, h2, by simp [Heap.set]⟩

/-- What a law's triple says of the machine. -/
theorem Fn.top {f : FuncId} {args : List Value} {cargs : List Value} {H H' : Heap} {n n' : Nat} {W : World} {β : Names} (h : Fn P f args H n (.bool true) H' n') (ha : Args W β H n)
    (hv : All2 (VA β) args cargs) : Calls P f cargs.toArray W fun e w' => e = .returned (.bool true) ∧ Go.RowKit.Below W.heap.size W w' := by
  refine (h.2.2 β cargs.toArray W hv ha.sat ha.fresh).mono fun e w' hh => ?_
  obtain ⟨u, β', he, hu, _, _, hg⟩ := hh
  obtain rfl : u = .bool true := hu.symm
  refine ⟨he, hg.os, hg.tape, hg.output, hg.size, fun k hk => hg.keep k hk fun ho => ?_⟩
  obtain ⟨x, b, l, hx, hrw, _⟩ := ho
  rw [ha.ro x b hx] at hrw
  simp at hrw

/-! ### The arguments' types -/

section
variable {H : Type} {enc : TypeId × Value → H} {w : World} {held : Bool} {t : TypeId} {r : Reach} {base : Nat} {v : Value} {d : DataW H} {ps : List MemPlace}

theorem okWide_array {n : Nat} {e : TypeId} (ht : P.underlying t = some (.array n e)) (h : Value.okWide P w r base t v) : ∃ cs, v = .agg cs ∧ cs.size = P.cellsOf t := by
  simp only [Value.okWide, ht] at h
  obtain ⟨cs, h1, h2, _⟩ := h
  exact ⟨cs, h1, h2⟩

theorem open_ints_slice {e : TypeId} {k : Nat} (hk : 0 < k) (ht : P.underlying t = some (.slice e)) (he : FlatT P e k) (hval : Value.okWide P w r base t v)
    (hd : DataW.Trod enc P w 0 (fun _ => true) held t v d ps) : ∃ zs, SlIn w k v zs ∧ good zs := by
  obtain ⟨a, len, cap, rfl⟩ := Go.WideShapes.okWide_slice ht hval
  obtain ⟨fuel, hf⟩ := hd
  obtain ⟨v, zs, h1, h2, h3⟩ := open_flat hk ht he hf
  simp [Value.cells] at h1
  subst h1
  exact ⟨zs, h2, h3⟩

theorem open_array {e : TypeId} {k : Nat} (ht : P.underlying t = some (.array k e)) (he : FlatT P t k) (hval : Value.okWide P w r base t v)
    (hd : DataW.Trod enc P w 0 (fun _ => true) held t v d ps) : ∃ zs, zs.length = k ∧ v = .agg (ints zs).toArray ∧ good zs := by
  obtain ⟨cs, rfl, _⟩ := okWide_array ht hval
  obtain ⟨fuel, hf⟩ := hd
  obtain ⟨zs, h1, h2, h3⟩ := he.2 _ _ _ _ _ _ _ _ _ hf
  simp only [Value.cells] at h2
  exact ⟨zs, h1, by rw [← h2], h3⟩

theorem ints_get {zs : List Int} {i : Nat} {z : Int} (h : zs[i]? = some z) : (ints zs)[i]? = some (.int .i64 z) := by simp [ints, h]

/-- A field of a struct: an int. -/
theorem field_int {cs : List Value} {fuel o : Nat} {f : TypeId} {x : Option (DataW H × List MemPlace)} (hf : P.underlying f = some (.int .i64)) (hc : P.cellsOf f = 1)
    (h : DataW.trod enc P w 0 (fun _ => true) held fuel f ((cs.drop o).take (P.cellsOf f)) = x) (hx : x.isSome = true) : ∃ z, cs[o]? = some (.int .i64 z) ∧ (-9223372036854775808 ≤ z ∧ z ≤ 9223372036854775807) := by
  obtain ⟨y, rfl⟩ := Option.isSome_iff_exists.mp hx
  rw [hc] at h
  obtain ⟨z, h1, _, h3⟩ := DataW.trod_int hf h
  refine ⟨z, ?_, wf_i64 h3⟩
  have h0 : ((cs.drop o).take 1)[0]? = some (.int .i64 z) := by rw [h1]; rfl
  simpa using h0

/-- A field of a struct: a slice of int's. -/
theorem field_slice {cs : List Value} {fuel o k : Nat} {f e : TypeId} {x : Option (DataW H × List MemPlace)} (hk : 0 < k) (hf : P.underlying f = some (.slice e)) (he : FlatT P e k) (hc : P.cellsOf f = 1)
    (h : DataW.trod enc P w 0 (fun _ => true) held fuel f ((cs.drop o).take (P.cellsOf f)) = x) (hx : x.isSome = true) : ∃ v zs, cs[o]? = some v ∧ SlIn w k v zs ∧ good zs := by
  obtain ⟨y, rfl⟩ := Option.isSome_iff_exists.mp hx
  rw [hc] at h
  obtain ⟨v, zs, h1, h2, h3⟩ := open_flat hk hf he h
  refine ⟨v, zs, ?_, h2, h3⟩
  have h0 : ((cs.drop o).take 1)[0]? = some v := by rw [h1]; rfl
  simpa using h0

theorem open_heap {i s e : TypeId} {f0 f1 f2 f3 : Field} (ht : P.underlying t = some (.struct #[f0, f1, f2, f3])) (h0 : f0.type = i ∧ f0.offset = 0) (h1 : f1.type = i ∧ f1.offset = 1)
    (h2 : f2.type = i ∧ f2.offset = 2) (h3 : f3.type = s ∧ f3.offset = 3) (hc : P.cellsOf t = 4) (hi : P.underlying i = some (.int .i64)) (hci : P.cellsOf i = 1) (hs : P.underlying s = some (.slice e)) (hcs : P.cellsOf s = 1)
    (he : FlatT P e 3) (hval : Value.okWide P w r base t v) (hd : DataW.Trod enc P w 0 (fun _ => true) held t v d ps) :
    ∃ X Y Z u zs, v = .agg #[.int .i64 X, .int .i64 Y, .int .i64 Z, u] ∧ SlIn w 3 u zs ∧ good [X, Y, Z] ∧ good zs := by
  obtain ⟨cs, rfl, _⟩ := Go.WideShapes.okWide_struct ht hval
  obtain ⟨fuel, hf⟩ := hd
  obtain ⟨xs, n, _, _, hl, hx, hel⟩ := DataW.trod_struct ht hf
  simp only [Value.cells] at hl hel
  rw [hc] at hl
  have sm : ∀ i, i < 4 → (xs[i]?).isSome = true := fun i hi => by rw [List.getElem?_eq_getElem (by rw [hx]; exact hi)]; rfl
  have e0 := hel 0 f0 rfl
  have e1 := hel 1 f1 rfl
  have e2 := hel 2 f2 rfl
  have e3 := hel 3 f3 rfl
  rw [h0.1, h0.2] at e0
  rw [h1.1, h1.2] at e1
  rw [h2.1, h2.2] at e2
  rw [h3.1, h3.2] at e3
  obtain ⟨X, hX, gX⟩ := field_int hi hci e0 (sm 0 (by omega))
  obtain ⟨Y, hY, gY⟩ := field_int hi hci e1 (sm 1 (by omega))
  obtain ⟨Z, hZ, gZ⟩ := field_int hi hci e2 (sm 2 (by omega))
  obtain ⟨u, zs, hu, g1, g2⟩ := field_slice (by omega) hs he hcs e3 (sm 3 (by omega))
  refine ⟨X, Y, Z, u, zs, ?_, g1, ?_, g2⟩
  · congr 1
    refine Array.toList_inj.mp ?_
    refine List.ext_getElem? fun j => ?_
    rcases j with _ | _ | _ | _ | j
    · exact hX
    · exact hY
    · exact hZ
    · exact hu
    · rw [List.getElem?_eq_none (by rw [hl]; omega), List.getElem?_eq_none (by simp)]
  · intro z hz
    simp at hz
    rcases hz with rfl | rfl | rfl <;> assumption

theorem open_shadow {i s e : TypeId} {f0 f1 f2 f3 f4 f5 : Field} (ht : P.underlying t = some (.struct #[f0, f1, f2, f3, f4, f5])) (h0 : f0.type = i ∧ f0.offset = 0) (h1 : f1.type = i ∧ f1.offset = 1)
    (h2 : f2.type = i ∧ f2.offset = 2) (h3 : f3.type = s ∧ f3.offset = 3) (h4 : f4.type = s ∧ f4.offset = 4) (h5 : f5.type = s ∧ f5.offset = 5) (hc : P.cellsOf t = 6) (hi : P.underlying i = some (.int .i64)) (hci : P.cellsOf i = 1)
    (hs : P.underlying s = some (.slice e)) (hcs : P.cellsOf s = 1) (he : FlatT P e 1) (hval : Value.okWide P w r base t v) (hd : DataW.Trod enc P w 0 (fun _ => true) held t v d ps) :
    ∃ X Y Z u us v' vs w' ws, v = .agg #[.int .i64 X, .int .i64 Y, .int .i64 Z, u, v', w'] ∧ SlIn w 1 u us ∧ SlIn w 1 v' vs ∧ SlIn w 1 w' ws ∧ good [X, Y, Z] ∧ good us ∧ good vs ∧ good ws := by
  obtain ⟨cs, rfl, _⟩ := Go.WideShapes.okWide_struct ht hval
  obtain ⟨fuel, hf⟩ := hd
  obtain ⟨xs, n, _, _, hl, hx, hel⟩ := DataW.trod_struct ht hf
  simp only [Value.cells] at hl hel
  rw [hc] at hl
  have sm : ∀ i, i < 6 → (xs[i]?).isSome = true := fun i hi => by rw [List.getElem?_eq_getElem (by rw [hx]; exact hi)]; rfl
  have e0 := hel 0 f0 rfl
  have e1 := hel 1 f1 rfl
  have e2 := hel 2 f2 rfl
  have e3 := hel 3 f3 rfl
  have e4 := hel 4 f4 rfl
  have e5 := hel 5 f5 rfl
  rw [h0.1, h0.2] at e0
  rw [h1.1, h1.2] at e1
  rw [h2.1, h2.2] at e2
  rw [h3.1, h3.2] at e3
  rw [h4.1, h4.2] at e4
  rw [h5.1, h5.2] at e5
  obtain ⟨X, hX, gX⟩ := field_int hi hci e0 (sm 0 (by omega))
  obtain ⟨Y, hY, gY⟩ := field_int hi hci e1 (sm 1 (by omega))
  obtain ⟨Z, hZ, gZ⟩ := field_int hi hci e2 (sm 2 (by omega))
  obtain ⟨u, us, hu, g1, g2⟩ := field_slice (by omega) hs he hcs e3 (sm 3 (by omega))
  obtain ⟨v', vs, hv, g3, g4⟩ := field_slice (by omega) hs he hcs e4 (sm 4 (by omega))
  obtain ⟨w', ws, hw, g5, g6⟩ := field_slice (by omega) hs he hcs e5 (sm 5 (by omega))
  refine ⟨X, Y, Z, u, us, v', vs, w', ws, ?_, g1, g3, g5, ?_, g2, g4, g6⟩
  · congr 1
    refine Array.toList_inj.mp ?_
    refine List.ext_getElem? fun j => ?_
    rcases j with _ | _ | _ | _ | _ | _ | j
    · exact hX
    · exact hY
    · exact hZ
    · exact hu
    · exact hv
    · exact hw
    · rw [List.getElem?_eq_none (by rw [hl]; omega), List.getElem?_eq_none (by simp)]
  · intro z hz
    simp at hz
    rcases hz with rfl | rfl | rfl <;> assumption
end

end Go.Sep
/- One operation after the other: rules for a printed walk. -/
namespace Go.Sep
open Go
set_option linter.unusedVariables false
set_option linter.unusedSimpArgs false

variable {P : Program} {N : Nat} {ops : Array Oper} {r : List Oper} {K : St → Prop} {ts : Temps} {H : Heap} {n : Nat}

/-! ### Values of operations -/

structure E (P : Program) (o : Op) (ts : Temps) (H : Heap) (n : Nat) (v : Value) (H' : Heap) (n' : Nat) : Prop where
  h : cop P o ts H n = some (v, H', n')
  c : calleeOf ts o = none

def inI (z : Int) : Prop := -9223372036854775808 ≤ z ∧ z ≤ 9223372036854775807

theorem wrap_in {z : Int} (h : inI z) : IntKind.i64.wrap z = z := by
  unfold inI at h
  simp only [IntKind.wrap, IntKind.signed, IntKind.bits]
  simp
  split <;> omega

def oneV : Value → Bool
  | .agg _ | .tuple _ => false
  | _ => true

theorem oneV_cells {v : Value} (h : oneV v = true) : v.cells = #[v] ∧ isTuple v = false := by
  cases v <;> simp [oneV] at h <;> exact ⟨rfl, rfl⟩

theorem e_move {x : Operand} {v : Value} (h : ev ts x = some v) : E P (.move x) ts H n v H n := ⟨by simp only [cop, withH, h], rfl⟩
theorem e_assign {x : Operand} {v : Value} (h : ev ts x = some v) : E P (.assign x) ts H n v H n := ⟨by simp only [cop, withH, h], rfl⟩
theorem e_pickT {c a b : Operand} {v : Value} (hc : ev ts c = some (.bool true)) (h : ev ts a = some v) : E P (.pick c a b) ts H n v H n := ⟨by simp only [cop, withH, hc, h], rfl⟩
theorem e_pickF {c a b : Operand} {v : Value} (hc : ev ts c = some (.bool false)) (h : ev ts b = some v) : E P (.pick c a b) ts H n v H n := ⟨by simp only [cop, withH, hc, h], rfl⟩
theorem e_alloc {t : TypeId} {d : TD} {sz by' : Nat} {z : List Value} {g : Bool} (ht : ti P t = some ⟨d, sz, by', z, g⟩) (hz : z.all konst0 = true) :
    E P (.alloc t) ts H n (.pointer (some ⟨n, 0, none⟩)) (H.set n (.cells false z)) (n + 1) := ⟨by simp only [cop, ht, hz, if_true], rfl⟩
theorem e_boxA {t : TypeId} {x : Operand} {l : List Value} (hx : ev ts x = some (.agg (List.toArray l))) :
    E P (.box t x) ts H n (.pointer (some ⟨n, 0, none⟩)) (H.set n (.cells false l)) (n + 1) := ⟨by simp only [cop, hx, isTuple, Value.cells]; rfl, rfl⟩
theorem e_box1 {t : TypeId} {x : Operand} {v : Value} (hx : ev ts x = some v) (hv : oneV v = true) :
    E P (.box t x) ts H n (.pointer (some ⟨n, 0, none⟩)) (H.set n (.cells false [v])) (n + 1) := ⟨by simp only [cop, hx, (oneV_cells hv).1, (oneV_cells hv).2]; rfl, rfl⟩

section load
variable {t : TypeId} {x : Operand} {b o : Nat} {sp : Option Nat} {ro : Bool} {cs l : List Value} {d : TD} {sz by' : Nat} {z : List Value} {g : Bool} {v : Value}
theorem e_loadA (ht : ti P t = some ⟨d, sz, by', z, g⟩) (hd : d.agg = true) (hx : ev ts x = some (.pointer (some ⟨b, o, sp⟩))) (hH : H b = some (.cells ro cs)) (h0 : o = 0) (hl : cs.length = sz) :
    E P (.load t x) ts H n (.agg (List.toArray cs)) H n := by
  subst h0
  refine ⟨?_, rfl⟩
  simp only [cop, ev1, hx, cLoad, ht, hH, loadC, hd, if_true]
  rw [if_pos (by omega), List.drop_zero, List.take_of_length_le (by omega)]
  rfl
theorem e_loadP (ht : ti P t = some ⟨d, sz, by', z, g⟩) (hd : d.agg = true) (hx : ev ts x = some (.pointer (some ⟨b, o, sp⟩))) (hH : H b = some (.cells ro cs)) (hl : o + sz ≤ cs.length ∧ (cs.drop o).take sz = l) :
    E P (.load t x) ts H n (.agg (List.toArray l)) H n := by
  obtain ⟨h1, rfl⟩ := hl
  refine ⟨?_, rfl⟩
  simp only [cop, ev1, hx, cLoad, ht, hH, loadC, hd, if_true]
  rw [if_pos h1]
  rfl
theorem e_load1 (ht : ti P t = some ⟨d, sz, by', z, g⟩) (hd : d.agg = false) (hx : ev ts x = some (.pointer (some ⟨b, o, sp⟩))) (hH : H b = some (.cells ro cs)) (hl : cs[o]? = some v) :
    E P (.load t x) ts H n v H n := by
  refine ⟨?_, rfl⟩
  simp only [cop, ev1, hx, cLoad, ht, hH, loadC, hd, hl]
  rfl
theorem e_store1 {y : Operand} (ht : ti P t = some ⟨d, 1, by', z, g⟩) (hx : ev ts x = some (.pointer (some ⟨b, o, sp⟩))) (hy : ev ts y = some v) (hv : oneV v = true) (hH : H b = some (.cells false cs)) (ho : o < cs.length) :
    E P (.store t x y) ts H n (.tuple #[]) (H.set b (.cells false (cs.set o v))) n := by
  refine ⟨?_, rfl⟩
  have hc := (oneV_cells hv).1
  simp only [cop, hx, hy, (oneV_cells hv).2, cStore, ht, hH]
  rw [if_neg (by simp), if_pos (by rw [hc]; exact ⟨rfl, ho⟩), hc]
  rfl
theorem e_storeA {y : Operand} (ht : ti P t = some ⟨d, sz, by', z, g⟩) (hx : ev ts x = some (.pointer (some ⟨b, o, sp⟩))) (hy : ev ts y = some (.agg (List.toArray l))) (hH : H b = some (.cells false cs)) (h0 : o = 0)
    (hl : l.length = sz) (hc : cs.length = sz) (h1 : sz ≠ 1) : E P (.store t x y) ts H n (.tuple #[]) (H.set b (.cells false l)) n := by
  subst h0
  refine ⟨?_, rfl⟩
  simp only [cop, hx, hy, isTuple, cStore, ht, hH]
  rw [if_neg (by simp), if_pos ⟨by simpa [Value.cells] using hl, by omega⟩]
  have : putC cs 0 (Value.agg (List.toArray l)).cells.toList = l := by
    simp only [Value.cells, putC]
    split
    · subst_vars; simp_all
    · simp [hl, hc]
  rw [this]
theorem e_storeP {y : Operand} (ht : ti P t = some ⟨d, sz, by', z, g⟩) (hx : ev ts x = some (.pointer (some ⟨b, o, sp⟩))) (hy : ev ts y = some (.agg (List.toArray l))) (hH : H b = some (.cells false cs))
    (hl : l.length = sz) (hc : o + sz ≤ cs.length) : E P (.store t x y) ts H n (.tuple #[]) (H.set b (.cells false (cs.take o ++ l ++ cs.drop (o + sz)))) n := by
  refine ⟨?_, rfl⟩
  simp only [cop, hx, hy, isTuple, cStore, ht, hH]
  rw [if_neg (by simp), if_pos ⟨by simpa [Value.cells] using hl, hc⟩]
  have : putC cs o (Value.agg (List.toArray l)).cells.toList = cs.take o ++ l ++ cs.drop (o + sz) := by
    rw [show (Value.agg (List.toArray l)).cells.toList = l from rfl, putC_eq (by omega), hl]
  rw [this]
end load

theorem e_fieldAddr {s ft : TypeId} {x : Operand} {f b o off : Nat} {sp : Option Nat} {fs : List (Nat × TypeId)} {sz by' : Nat} {z : List Value} {g : Bool} {d' : TD} {sz' by'' : Nat} {z' : List Value} {g' : Bool}
    (ht : ti P s = some ⟨.struct fs, sz, by', z, g⟩) (hF : ti P ft = some ⟨d', sz' + 1, by'', z', g'⟩) (hx : ev ts x = some (.pointer (some ⟨b, o, sp⟩))) (hf : fs[f]? = some (off, ft)) :
    E P (.fieldAddr s x f) ts H n (.pointer (some ⟨b, o + off, none⟩)) H n := by
  refine ⟨?_, rfl⟩
  simp only [cop, ev1, hx, cFieldAddr, ht, hf, hF]
  rfl
theorem e_field1 {s ft : TypeId} {x : Operand} {f off : Nat} {fs : List (Nat × TypeId)} {sz by' : Nat} {z : List Value} {g : Bool} {d' : TD} {sz' by'' : Nat} {z' : List Value} {g' : Bool} {l : List Value} {v : Value}
    (ht : ti P s = some ⟨.struct fs, sz, by', z, g⟩) (hF : ti P ft = some ⟨d', sz', by'', z', g'⟩) (hd : d'.agg = false) (hx : ev ts x = some (.agg (List.toArray l))) (hf : fs[f]? = some (off, ft)) (hv : l[off]? = some v) :
    E P (.field s x f) ts H n v H n := by
  refine ⟨?_, rfl⟩
  simp only [cop, ev1, hx, cField, ht, hf, cPart, hF, hd, hv]
  rfl
theorem e_idxS {t e : TypeId} {x i : Operand} {b o m k : Nat} {sp : Option Nat} {q : IntKind} {j : Int} {sz by' : Nat} {z : List Value} {g : Bool} {d' : TD} {sz' by'' : Nat} {z' : List Value} {g' : Bool}
    (ht : ti P t = some ⟨.slice e, sz, by', z, g⟩) (hE : ti P e = some ⟨d', sz', by'', z', g'⟩) (hx : ev ts x = some (.slice (some ⟨b, o, sp⟩) m k)) (hi : ev ts i = some (.int q j)) (hb : 0 ≤ j ∧ j < (m : Int)) :
    E P (.indexAddr t x i) ts H n (.pointer (some ⟨b, o + j.toNat * sz', none⟩)) H n := by
  refine ⟨?_, rfl⟩
  simp only [cop, ev2, hx, hi, cIndexAddr, ht, hE]
  rw [if_pos hb]; rfl
theorem e_idxA {t e : TypeId} {x i : Operand} {b o m : Nat} {sp : Option Nat} {q : IntKind} {j : Int} {sz by' : Nat} {z : List Value} {g : Bool} {d' : TD} {sz' by'' : Nat} {z' : List Value} {g' : Bool}
    (ht : ti P t = some ⟨.array m e, sz, by', z, g⟩) (hE : ti P e = some ⟨d', sz', by'', z', g'⟩) (hx : ev ts x = some (.pointer (some ⟨b, o, sp⟩))) (hi : ev ts i = some (.int q j)) (hb : 0 ≤ j ∧ j < (m : Int)) :
    E P (.indexAddr t x i) ts H n (.pointer (some ⟨b, o + j.toNat * sz', none⟩)) H n := by
  refine ⟨?_, rfl⟩
  simp only [cop, ev2, hx, hi, cIndexAddr, ht, hE]
  rw [if_pos hb]; rfl
theorem e_index1 {t e : TypeId} {x i : Operand} {m : Nat} {l : List Value} {v : Value} {q : IntKind} {j : Int} {sz by' : Nat} {z : List Value} {g : Bool} {d' : TD} {by'' : Nat} {z' : List Value} {g' : Bool}
    (ht : ti P t = some ⟨.array m e, sz, by', z, g⟩) (hE : ti P e = some ⟨d', 1, by'', z', g'⟩) (hd : d'.agg = false) (hx : ev ts x = some (.agg (List.toArray l))) (hi : ev ts i = some (.int q j)) (hb : 0 ≤ j ∧ j < (m : Int))
    (hv : l[j.toNat * 1]? = some v) : E P (.index t x i) ts H n v H n := by
  refine ⟨?_, rfl⟩
  simp only [cop, ev2, hx, hi, cIndex, ht, hE, cPart, hd, hv]
  rw [if_pos hb]; rfl
theorem e_extract {x : Operand} {i : Nat} {l : List Value} {v : Value} (hx : ev ts x = some (.tuple (List.toArray l))) (hv : l[i]? = some v) : E P (.extract x i) ts H n v H n := by
  refine ⟨?_, rfl⟩
  simp only [cop, ev1, hx, cExtract]
  rw [show (List.toArray l)[i]? = some v by simpa using hv]
  rfl
theorem e_len {t e : TypeId} {x : Operand} {p : Option Addr} {m k : Nat} {sz by' : Nat} {z : List Value} {g : Bool} (ht : ti P t = some ⟨.slice e, sz, by', z, g⟩) (hx : ev ts x = some (.slice p m k)) :
    E P (.call { callee := .builtin .len, args := #[x], argTypes := #[t] }) ts H n (.int .i64 m) H n := by
  refine ⟨?_, rfl⟩
  simp only [cop, cBuiltin, ev1, hx, cLen, ht]
  rfl

section bin
variable {x y : Operand} {a b : Int} {t u : TypeId} {k : IntKind}
theorem e_cInt {op : BinOp} {v : Value} (hx : ev ts x = some (.int k a)) (hy : ev ts y = some (.int k b)) (ho : op ≠ .shl ∧ op ≠ .shr) (hv : cInt op k a b = some v) : E P (.binOp op t x y u) ts H n v H n := by
  refine ⟨?_, rfl⟩
  simp only [cop, ev2, hx, hy, cBin]
  cases op <;> simp at ho <;> simp only [if_true, hv] <;> rfl
theorem e_add (hx : ev ts x = some (.int .i64 a)) (hy : ev ts y = some (.int .i64 b)) (h : inI (a + b)) : E P (.binOp .add t x y u) ts H n (.int .i64 (a + b)) H n :=
  e_cInt hx hy (by simp) (by simp only [cInt, wrap_in h])
theorem e_sub (hx : ev ts x = some (.int .i64 a)) (hy : ev ts y = some (.int .i64 b)) (h : inI (a - b)) : E P (.binOp .sub t x y u) ts H n (.int .i64 (a - b)) H n :=
  e_cInt hx hy (by simp) (by simp only [cInt, wrap_in h])
theorem e_mul (hx : ev ts x = some (.int .i64 a)) (hy : ev ts y = some (.int .i64 b)) (h : inI (a * b)) : E P (.binOp .mul t x y u) ts H n (.int .i64 (a * b)) H n :=
  e_cInt hx hy (by simp) (by simp only [cInt, wrap_in h])
theorem e_quo (hx : ev ts x = some (.int .i64 a)) (hy : ev ts y = some (.int .i64 b)) (h0 : b ≠ 0) (h : inI (a.tdiv b)) : E P (.binOp .quo t x y u) ts H n (.int .i64 (a.tdiv b)) H n :=
  e_cInt hx hy (by simp) (by simp only [cInt, wrap_in h, h0, if_false])
theorem e_rem (hx : ev ts x = some (.int .i64 a)) (hy : ev ts y = some (.int .i64 b)) (h0 : b ≠ 0) : E P (.binOp .rem t x y u) ts H n (.int .i64 (a.tmod b)) H n :=
  e_cInt hx hy (by simp) (by simp only [cInt, h0, if_false])
theorem e_lss (hx : ev ts x = some (.int k a)) (hy : ev ts y = some (.int k b)) : E P (.binOp .lss t x y u) ts H n (.bool (decide (a < b))) H n := e_cInt hx hy (by simp) rfl
theorem e_leq (hx : ev ts x = some (.int k a)) (hy : ev ts y = some (.int k b)) : E P (.binOp .leq t x y u) ts H n (.bool (decide (a ≤ b))) H n := e_cInt hx hy (by simp) rfl
theorem e_gtr (hx : ev ts x = some (.int k a)) (hy : ev ts y = some (.int k b)) : E P (.binOp .gtr t x y u) ts H n (.bool (decide (b < a))) H n := e_cInt hx hy (by simp) rfl
theorem e_geq (hx : ev ts x = some (.int k a)) (hy : ev ts y = some (.int k b)) : E P (.binOp .geq t x y u) ts H n (.bool (decide (b ≤ a))) H n := e_cInt hx hy (by simp) rfl
theorem e_eql (hx : ev ts x = some (.int k a)) (hy : ev ts y = some (.int k b)) : E P (.binOp .eql t x y u) ts H n (.bool (decide (a = b))) H n := e_cInt hx hy (by simp) (by simp only [cInt]; rfl)
theorem e_neq (hx : ev ts x = some (.int k a)) (hy : ev ts y = some (.int k b)) : E P (.binOp .neq t x y u) ts H n (.bool (!decide (a = b))) H n := e_cInt hx hy (by simp) (by simp only [cInt]; rfl)
theorem e_not {v : Bool} (hx : ev ts x = some (.bool v)) : E P (.unOp .not t x) ts H n (.bool !v) H n := ⟨by simp only [cop, ev1, hx, cUn]; rfl, rfl⟩
theorem e_neg (hx : ev ts x = some (.int .i64 a)) (h : inI (0 - a)) : E P (.unOp .neg t x) ts H n (.int .i64 (0 - a)) H n := ⟨by simp only [cop, ev1, hx, cUn, wrap_in h]; rfl, rfl⟩
theorem e_max2 {ty : Array TypeId} (hx : ev ts x = some (.int k a)) (hy : ev ts y = some (.int k b)) : E P (.call { callee := .builtin .max, args := #[x, y], argTypes := ty }) ts H n (.int k (max a b)) H n :=
  ⟨by simp only [cop, cBuiltin, evs, hx, hy, cMax, if_true]; rfl, rfl⟩
theorem e_min2 {ty : Array TypeId} (hx : ev ts x = some (.int k a)) (hy : ev ts y = some (.int k b)) : E P (.call { callee := .builtin .min, args := #[x, y], argTypes := ty }) ts H n (.int k (min a b)) H n :=
  ⟨by simp only [cop, cBuiltin, evs, hx, hy, cMin, if_true]; rfl, rfl⟩
end bin

theorem e_make {t e : TypeId} {x y : Operand} {m : Nat} {sz by' : Nat} {z : List Value} {g : Bool} {d' : TD} {sz' by'' : Nat} {z' : List Value} {g' : Bool}
    (ht : ti P t = some ⟨.slice e, sz, by', z, g⟩) (hE : ti P e = some ⟨d', sz', by'', z', g'⟩) (hx : ev ts x = some (.int .i64 (m : Nat))) (hy : ev ts y = some (.int .i64 (m : Nat)))
    (hk : by'' ≤ 2 ^ 16 ∧ z'.length = sz' ∧ z'.all konst0 = true) (hm : m ≤ 2 ^ 30) :
    E P (.makeSlice t x y) ts H n (.slice (some ⟨n, 0, none⟩) m sz') (H.set n (.cells false (zeros z' m))) (n + 1) := by
  refine ⟨?_, rfl⟩
  simp only [cop, hx, hy, cMake, ht, hE]
  rw [if_pos ⟨trivial, by omega, by omega, hk⟩]
  rfl

theorem e_build {t : TypeId} {ps : Array (Nat × Operand)} {vs : List (Nat × Value)} {v : Value} (hp : evParts ts ps.toList = some vs) (ha : (vs.all fun p => !isTuple p.2) = true) (hv : cBuild P t vs = some v) :
    E P (.build t ps) ts H n v H n := ⟨by simp only [cop, hp, ha, if_true, withH, hv], rfl⟩
theorem e_buildSlice {t : TypeId} {len n' : Nat} {ps : Array (Nat × Operand)} {vs : List (Nat × Value)} {v : Value} {H' : Heap} (hp : evParts ts ps.toList = some vs) (ha : (vs.all fun p => !isTuple p.2) = true)
    (hv : cBuildSlice P t len H n vs = some (v, H', n')) : E P (.buildSlice t len ps) ts H n v H' n' := ⟨by simp only [cop, hp, ha, if_true, hv], rfl⟩
theorem e_makeFunc {fn : Go.Fn} {cs : Array Operand} {vs : List Value} (hc : evs ts cs.toList = some vs) (hv : vs.all isV0 = true) : E P (.makeFunc fn #[] cs) ts H n (.func fn #[] (List.toArray vs)) H n :=
  ⟨by simp only [cop, evs, hc, cMakeFunc, hv, and_self, if_true, withH], rfl⟩

/-- append(s, x) to an owned row; `x` is a slice made before. -/
theorem e_append {t t1 e e1 : TypeId} {x y : Operand} {b c m k es es1 : Nat} {sp sp1 : Option Nat} {ro : Bool} {cs xs : List Value} {sz by' : Nat} {z : List Value} {g : Bool} {sz1 by1 : Nat} {z1 : List Value} {g1 : Bool}
    {d' : TD} {by'' : Nat} {z' : List Value} {g' : Bool} (ht : ti P t = some ⟨.slice e, sz, by', z, g⟩) (ht1 : ti P t1 = some ⟨.slice e1, sz1, by1, z1, g1⟩) (hE : ti P e = some ⟨d', es, by'', z', g'⟩)
    (hx : ev ts x = some (.slice (some ⟨b, 0, sp⟩) k es)) (hy : ev ts y = some (.slice (some ⟨c, 0, sp1⟩) (m + 1) es1)) (hH : H b = some (.cells false cs)) (hH1 : H c = some (.cells ro xs))
    (hk : by'' ≤ 2 ^ 16 ∧ z'.length = es ∧ 0 < es) (hl : cs.length = k * es) (hl1 : xs.length = (m + 1) * es) (hkm : k + (m + 1) ≤ 2 ^ 24) :
    E P (.call { callee := .builtin .append, args := #[x, y], argTypes := #[t, t1] }) ts H n (.slice (some ⟨n, 0, none⟩) (k + (m + 1)) es) ((H.del b).set n (.cells false (cs ++ xs))) (n + 1) := by
  refine ⟨?_, rfl⟩
  simp only [cop, cBuiltin, hx, hy]
  simp only [cAppend, List.getElem?_toArray, List.getElem?_cons_zero, List.getElem?_cons_succ, ht, ht1, hE]
  rw [if_pos hk]
  simp only [cTake, hH1]
  rw [if_pos (by omega)]
  simp only [hH]
  rw [if_neg (by omega), if_pos ⟨trivial, trivial, hl, hkm⟩, List.drop_zero, List.take_of_length_le (by omega)]

/-! ### Plain regions -/

theorem st {t : Tmp} {op : Op} {ty : TypeId} {pos : String} {after : Array Edge} {gd : Option (Nat × Bool)} {v : Value} {H' : Heap} {n' : Nat} (hd : okDst N (some t) = true) (hw : wantC ops ⟨some t, op, ty, pos, after, gd⟩ ts = some true)
    (he : E P op ts H n v H' n') (hk : wops P N ops r ⟨(t, v) :: ts, H', n'⟩ K) : wops P N ops (⟨some t, op, ty, pos, after, gd⟩ :: r) ⟨ts, H, n⟩ K := by
  simp only [wops, hd, hw, stepOp, he.c, he.h, putT]
  exact ⟨trivial, hk⟩
theorem stN {op : Op} {ty : TypeId} {pos : String} {after : Array Edge} {gd : Option (Nat × Bool)} {v : Value} {H' : Heap} {n' : Nat} (hw : wantC ops ⟨none, op, ty, pos, after, gd⟩ ts = some true)
    (he : E P op ts H n v H' n') (hk : wops P N ops r ⟨ts, H', n'⟩ K) : wops P N ops (⟨none, op, ty, pos, after, gd⟩ :: r) ⟨ts, H, n⟩ K := by
  simp only [wops, okDst, hw, stepOp, he.c, he.h, putT]
  exact ⟨trivial, hk⟩
theorem stS {t : Tmp} {op : Op} {ty : TypeId} {pos : String} {after : Array Edge} {gd : Option (Nat × Bool)} (hd : okDst N (some t) = true) (hw : wantC ops ⟨some t, op, ty, pos, after, gd⟩ ts = some false)
    (hk : wops P N ops r ⟨(t, .tuple #[]) :: ts, H, n⟩ K) : wops P N ops (⟨some t, op, ty, pos, after, gd⟩ :: r) ⟨ts, H, n⟩ K := by
  simp only [wops, hd, hw, putT]
  exact ⟨trivial, hk⟩
theorem stSN {op : Op} {ty : TypeId} {pos : String} {after : Array Edge} {gd : Option (Nat × Bool)} (hw : wantC ops ⟨none, op, ty, pos, after, gd⟩ ts = some false)
    (hk : wops P N ops r ⟨ts, H, n⟩ K) : wops P N ops (⟨none, op, ty, pos, after, gd⟩ :: r) ⟨ts, H, n⟩ K := by
  simp only [wops, okDst, hw, putT]
  exact ⟨trivial, hk⟩
theorem stC {t : Tmp} {op : Op} {ty : TypeId} {pos : String} {after : Array Edge} {gd : Option (Nat × Bool)} {f : FuncId} {args : List Value} {v : Value} {H' : Heap} {n' : Nat} (hd : okDst N (some t) = true)
    (hw : wantC ops ⟨some t, op, ty, pos, after, gd⟩ ts = some true) (hc : calleeOf ts op = some (f, args)) (hf : Fn P f args H n v H' n') (hk : wops P N ops r ⟨(t, v) :: ts, H', n'⟩ K) :
    wops P N ops (⟨some t, op, ty, pos, after, gd⟩ :: r) ⟨ts, H, n⟩ K := by
  simp only [wops, hd, hw, stepOp, hc, putT]
  exact ⟨trivial, v, H', n', hf, hk⟩
theorem stCN {op : Op} {ty : TypeId} {pos : String} {after : Array Edge} {gd : Option (Nat × Bool)} {f : FuncId} {args : List Value} {v : Value} {H' : Heap} {n' : Nat}
    (hw : wantC ops ⟨none, op, ty, pos, after, gd⟩ ts = some true) (hc : calleeOf ts op = some (f, args)) (hf : Fn P f args H n v H' n') (hk : wops P N ops r ⟨ts, H', n'⟩ K) :
    wops P N ops (⟨none, op, ty, pos, after, gd⟩ :: r) ⟨ts, H, n⟩ K := by
  simp only [wops, okDst, hw, stepOp, hc, putT]
  exact ⟨trivial, v, H', n', hf, hk⟩
theorem stEnd {s : St} (h : K s) : wops P N ops [] s K := h
/-- A bool, told apart before it is asked for. -/
theorem stB {t : Nat} {b : Bool} {l : List Oper} (h1 : b = true → wops P N ops l ⟨(t, .bool true) :: ts, H, n⟩ K) (h2 : b = false → wops P N ops l ⟨(t, .bool false) :: ts, H, n⟩ K) :
    wops P N ops l ⟨(t, .bool b) :: ts, H, n⟩ K := by cases b with | true => exact h1 rfl | false => exact h2 rfl

/-! ### Drawn regions -/

section drawn
variable {t : Tmp} {op : Op} {ty : TypeId} {pos : String} {after : Array Edge} {gd : Option (Nat × Bool)} {v : Value} {H' : Heap} {n' m j : Nat} {ms : List Nat} {acc : List (Nat × Foot)}

theorem dP (hd : okDst N (some t) = true) (hw : wantC ops ⟨some t, op, ty, pos, after, gd⟩ ts = some true) (hf : kindOf op ts = .pure) (he : E P op ts H n v H n) (hk : wopsD P N ops r ms (j + 1) acc ⟨(t, v) :: ts, H, n⟩ K) :
    wopsD P N ops (⟨some t, op, ty, pos, after, gd⟩ :: r) (m :: ms) j acc ⟨ts, H, n⟩ K := by
  simp only [wopsD, hd, hw, hf, he.h, putT]
  exact ⟨trivial, hk⟩
theorem dL {t' : TypeId} {x : Operand} {b o : Nat} {sp : Option Nat} (hd : okDst N (some t) = true) (hw : wantC ops ⟨some t, .load t' x, ty, pos, after, gd⟩ ts = some true) (hx : ev ts x = some (.pointer (some ⟨b, o, sp⟩))) (hb : b < n)
    (ha : accOk m (.load b) acc) (he : E P (.load t' x) ts H n v H n) (hk : wopsD P N ops r ms (j + 1) ((j, .load b) :: acc) ⟨(t, v) :: ts, H, n⟩ K) :
    wopsD P N ops (⟨some t, .load t' x, ty, pos, after, gd⟩ :: r) (m :: ms) j acc ⟨ts, H, n⟩ K := by
  have hf : kindOf (.load t' x) ts = .load b := by simp only [kindOf, hx]
  simp only [wopsD, hd, hw, hf, he.h, putT]
  exact ⟨trivial, ⟨hb, ha⟩, hk⟩
theorem dLs {t' : TypeId} {x : Operand} {lo hi mx : Option Operand} {b o : Nat} {sp : Option Nat} (hd : okDst N (some t) = true) (hw : wantC ops ⟨some t, .slice t' x lo hi mx, ty, pos, after, gd⟩ ts = some true)
    (hx : ev ts x = some (.pointer (some ⟨b, o, sp⟩))) (hb : b < n) (ha : accOk m (.load b) acc) (he : E P (.slice t' x lo hi mx) ts H n v H n) (hk : wopsD P N ops r ms (j + 1) ((j, .load b) :: acc) ⟨(t, v) :: ts, H, n⟩ K) :
    wopsD P N ops (⟨some t, .slice t' x lo hi mx, ty, pos, after, gd⟩ :: r) (m :: ms) j acc ⟨ts, H, n⟩ K := by
  have hf : kindOf (.slice t' x lo hi mx) ts = .load b := by simp only [kindOf, hx]
  simp only [wopsD, hd, hw, hf, he.h, putT]
  exact ⟨trivial, ⟨hb, ha⟩, hk⟩
theorem dN {x : Nat} (hd : okDst N (some t) = true) (hw : wantC ops ⟨some t, op, ty, pos, after, gd⟩ ts = some true) (hf : kindOf op ts = .new x) (he : E P op ts H n v H' (n + 1))
    (hk : wopsD P N ops r ms (j + 1) ((j, .new n) :: acc) ⟨(t, v) :: ts, H', n + 1⟩ K) : wopsD P N ops (⟨some t, op, ty, pos, after, gd⟩ :: r) (m :: ms) j acc ⟨ts, H, n⟩ K := by
  simp only [wopsD, hd, hw, hf, he.h, putT]
  exact ⟨trivial, hk⟩
theorem dS (hd : okDst N (some t) = true) (hw : wantC ops ⟨some t, op, ty, pos, after, gd⟩ ts = some false) (hk : wopsD P N ops r ms (j + 1) acc ⟨(t, .tuple #[]) :: ts, H, n⟩ K) :
    wopsD P N ops (⟨some t, op, ty, pos, after, gd⟩ :: r) (m :: ms) j acc ⟨ts, H, n⟩ K := by
  simp only [wopsD, hd, hw, putT]
  exact ⟨trivial, hk⟩
/-- A call that leaves the heap. -/
theorem dC {f : FuncId} {args : List Value} (hd : okDst N (some t) = true) (hw : wantC ops ⟨some t, op, ty, pos, after, gd⟩ ts = some true) (hkd : kindOf op ts = .eff 0 0 []) (hc : calleeOf ts op = some (f, args))
    (hf : Fn P f args (hide (hidden m acc) n H) n v (hide (hidden m acc) n H) n) (ha : accOk m (.eff n n []) acc) (hk : wopsD P N ops r ms (j + 1) ((j, .eff n n []) :: acc) ⟨(t, v) :: ts, H, n⟩ K) :
    wopsD P N ops (⟨some t, op, ty, pos, after, gd⟩ :: r) (m :: ms) j acc ⟨ts, H, n⟩ K := by
  simp only [wopsD, hd, hw, hkd, putT]
  refine ⟨trivial, [], by simp, ?_⟩
  simp only [stepOp, hc]
  refine ⟨v, _, n, hf, Nat.le_refl _, fun y hy _ hu => by unfold hide; rw [if_pos ⟨hy, hu⟩], ha, ?_⟩
  have : unhide (hidden m acc) n H (hide (hidden m acc) n H) = H := by
    funext y
    unfold unhide hide
    split
    · rfl
    · rfl
  rw [this]; exact hk
/-- A call that makes one block. -/
theorem dC1 {f : FuncId} {args : List Value} {c : Blk} (hd : okDst N (some t) = true) (hw : wantC ops ⟨some t, op, ty, pos, after, gd⟩ ts = some true) (hkd : kindOf op ts = .eff 0 0 []) (hc : calleeOf ts op = some (f, args))
    (hf : Fn P f args (hide (hidden m acc) n H) n v ((hide (hidden m acc) n H).set n c) (n + 1)) (ha : accOk m (.eff n (n + 1) []) acc) (hu : n ∉ hidden m acc)
    (hk : wopsD P N ops r ms (j + 1) ((j, .eff n (n + 1) []) :: acc) ⟨(t, v) :: ts, H.set n c, n + 1⟩ K) : wopsD P N ops (⟨some t, op, ty, pos, after, gd⟩ :: r) (m :: ms) j acc ⟨ts, H, n⟩ K := by
  simp only [wopsD, hd, hw, hkd, putT]
  refine ⟨trivial, [], by simp, ?_⟩
  simp only [stepOp, hc]
  refine ⟨v, _, n + 1, hf, Nat.le_succ _, fun y hy _ hu => by rw [Heap.set_ne _ _ (by omega)]; unfold hide; rw [if_pos ⟨hy, hu⟩], ha, ?_⟩
  have : unhide (hidden m acc) (n + 1) H ((hide (hidden m acc) n H).set n c) = H.set n c := by
    funext y
    unfold unhide
    by_cases e : y = n
    · subst e; rw [if_pos ⟨Nat.lt_succ_self _, hu⟩, Heap.set_same, Heap.set_same]
    · rw [Heap.set_ne _ _ e, Heap.set_ne _ _ e]
      split
      · rename_i hh
        unfold hide
        rw [if_pos ⟨by omega, hh.2⟩]
      · rfl
  rw [this]; exact hk
theorem dEnd {s : St} (h : K s) : wopsD P N ops [] ms j acc s K := by cases ms <;> exact h
theorem dB {t : Nat} {b : Bool} {l : List Oper} (h1 : b = true → wopsD P N ops l ms j acc ⟨(t, .bool true) :: ts, H, n⟩ K) (h2 : b = false → wopsD P N ops l ms j acc ⟨(t, .bool false) :: ts, H, n⟩ K) :
    wopsD P N ops l ms j acc ⟨(t, .bool b) :: ts, H, n⟩ K := by cases b with | true => exact h1 rfl | false => exact h2 rfl
end drawn

/-! ### Regions, with the temporaries that are kept -/

def keepT : List Nat → Temps → Temps
  | [], _ => []
  | t :: D, ts => match get ts t with
    | some v => (t, v) :: keepT D ts
    | none => keepT D ts

theorem get_keepT {t : Nat} {v : Value} {ts : Temps} : ∀ {D : List Nat}, get (keepT D ts) t = some v → get ts t = some v
  | [], h => by simp [keepT, get] at h
  | k :: D, h => by
    simp only [keepT] at h
    split at h
    · rename_i u hu
      simp only [get] at h
      split at h
      · rename_i e; subst e; rw [hu]; exact h
      · exact get_keepT h
    · exact get_keepT h

variable {s : St} {Q : Exit → St → Prop} {d : Code} {id : Nat}

theorem Less.keep (D : List Nat) (ts : Temps) (H : Heap) (n : Nat) : Less ⟨keepT D ts, H, n⟩ ⟨ts, H, n⟩ :=
  { ts := fun t v ht => get_keepT ht, heap := Heap.le.refl _, n := Nat.le_refl _ }

theorem W.sR (D : List Nat) (h : ∀ K : St → Prop, (∀ ts ts' H n, keepT D ts = ts' → W P N d ⟨ts', H, n⟩ Q → K ⟨ts, H, n⟩) → wops P N ops ops.toList s K) : W P N ((Code.region id ops false).seq d) s Q :=
  W.seq (W.region (h _ fun ts ts' H n e hh => W.less (Less.keep D ts H n) (e ▸ hh)))
theorem W.rR (D : List Nat) (h : ∀ K : St → Prop, (∀ ts ts' H n, keepT D ts = ts' → Q .normal ⟨ts', H, n⟩ → K ⟨ts, H, n⟩) → wops P N ops ops.toList s K) : W P N (Code.region id ops false) s Q :=
  W.post (W.region (h _ fun ts ts' H n e hh => ⟨_, e ▸ Less.keep D ts H n, hh⟩))
theorem W.sD (D : List Nat) (ms : List Nat) (hP : P.follows .mixedOrders = true) (hs : staticOk ops ms = true)
    (h : ∀ K : St → Prop, (∀ ts ts' H n, keepT D ts = ts' → W P N d ⟨ts', H, n⟩ Q → K ⟨ts, H, n⟩) → wopsD P N ops ops.toList ms 0 [] s K) : W P N ((Code.region id ops true).seq d) s Q :=
  W.seq (W.regionD ms hP hs (h _ fun ts ts' H n e hh => W.less (Less.keep D ts H n) (e ▸ hh)))
theorem W.rD (D : List Nat) (ms : List Nat) (hP : P.follows .mixedOrders = true) (hs : staticOk ops ms = true)
    (h : ∀ K : St → Prop, (∀ ts ts' H n, keepT D ts = ts' → Q .normal ⟨ts', H, n⟩ → K ⟨ts, H, n⟩) → wopsD P N ops ops.toList ms 0 [] s K) : W P N (Code.region id ops true) s Q :=
  W.post (W.regionD ms hP hs (h _ fun ts ts' H n e hh => ⟨_, e ▸ Less.keep D ts H n, hh⟩))

/-! ### Looking into the heap -/

theorem look_same {H : Heap} {x : Nat} {b : Blk} : (H.set x b) x = some b := Heap.set_same ..
theorem look_ne {H : Heap} {x y : Nat} {b c : Blk} (h : y ≠ x) (hy : H y = some c) : (H.set x b) y = some c := by rw [Heap.set_ne _ _ h]; exact hy
theorem look_del {H : Heap} {x y : Nat} {c : Blk} (h : y ≠ x) (hy : H y = some c) : (H.del x) y = some c := by unfold Heap.del; rw [if_neg h]; exact hy
theorem look_hide {H : Heap} {n y : Nat} {U : List Nat} {c : Blk} (h : y < n) (hu : y ∉ U) (hy : H y = some c) : (hide U n H) y = some c := by unfold hide; rw [if_pos ⟨h, hu⟩]; exact hy

/-- Behind some rounds of a loop the heap tells what it told ahead of it, but for the blocks that the loop writes to. -/
def Keeps (U : List Nat) (m : Nat) (G0 G : Heap) : Prop := ∀ x, x < m → x ∉ U → G x = G0 x
theorem Keeps.refl (U : List Nat) (m : Nat) (G : Heap) : Keeps U m G G := fun _ _ _ => rfl
theorem Keeps.set {U : List Nat} {m x : Nat} {G0 G : Heap} {b : Blk} (h : Keeps U m G0 G) (hx : m ≤ x ∨ x ∈ U) : Keeps U m G0 (G.set x b) := fun y hy hu => by
  rw [Heap.set_ne _ _ (by rcases hx with g | g; omega; exact fun e => hu (e ▸ g))]; exact h y hy hu
theorem Keeps.del {U : List Nat} {m x : Nat} {G0 G : Heap} (h : Keeps U m G0 G) (hx : m ≤ x ∨ x ∈ U) : Keeps U m G0 (G.del x) := fun y hy hu => by
  unfold Heap.del
  rw [if_neg (by rcases hx with g | g; omega; exact fun e => hu (e ▸ g))]; exact h y hy hu
theorem Keeps.trans {U U' : List Nat} {m m' : Nat} {G0 G1 G2 : Heap} (h : Keeps U m G0 G1) (k : Keeps U' m' G1 G2) (hm : m ≤ m') (hU : ∀ x ∈ U', m ≤ x ∨ x ∈ U) : Keeps U m G0 G2 := fun y hy hu => by
  rw [k y (by omega) (fun hh => by rcases hU y hh with g | g; omega; exact hu g)]; exact h y hy hu
theorem look_keep {U : List Nat} {m y : Nat} {G0 G : Heap} {c : Blk} (h : Keeps U m G0 G) (hy : y < m) (hu : y ∉ U) (hc : G0 y = some c) : G y = some c := (h y hy hu).trans hc

/-- What a loop's round must bring about. -/
def roundQ (C : Temps) (G0 : Heap) (m0 : Nat) (U : List Nat) (Inv : Nat → Temps → Heap → Nat → Prop) (k : Nat) (s' : St) : Prop :=
  ∃ V', Less ⟨V' ++ C, s'.H, s'.n⟩ s' ∧ m0 ≤ s'.n ∧ Keeps U m0 G0 s'.H ∧ ∃ k', k' < k ∧ Inv k' V' s'.H s'.n

/-- A loop: the temporaries `V0` change, `C` stay; the heap changes only at the blocks `U` and at new ones. -/
theorem W.loopC {c : Code} {C : Temps} {G0 : Heap} {m0 : Nat} (V0 : Temps) (U : List Nat) (Inv : Nat → Temps → Heap → Nat → Prop) (k0 : Nat) (h0 : Inv k0 V0 G0 m0)
    (round : ∀ k V G m, Inv k V G m → m0 ≤ m → Keeps U m0 G0 G → (∀ x, m ≤ x → G x = none) → W P N c ⟨V ++ C, G, m⟩ (thenS (roundQ C G0 m0 U Inv k) Q)) : W P N (.loop c) ⟨V0 ++ C, G0, m0⟩ Q :=
  W.loop (fun k s => ∃ V, s.ts = V ++ C ∧ m0 ≤ s.n ∧ Keeps U m0 G0 s.H ∧ Inv k V s.H s.n) k0 ⟨V0, rfl, Nat.le_refl _, Keeps.refl _ _ _, h0⟩ fun k s hs => by
    obtain ⟨V, h1, h2, h3, h4⟩ := hs
    obtain ⟨ts, G, m⟩ := s
    simp only at h1 h2 h3 h4
    subst h1
    refine W.fresh fun hf => W.post ((round k V G m h4 h2 h3 hf).mono fun e s' he => ?_)
    cases e with
    | normal =>
      obtain ⟨V', g1, g2, g3, k', g4, g5⟩ := he
      exact ⟨_, g1, k', g4, V', rfl, g2, g3, g5⟩
    | _ => exact ⟨s', Less.refl _, he⟩

theorem inB (z : Int) (h : -9223372036854775808 ≤ z ∧ z ≤ 9223372036854775807) : inI z := h

end Go.Sep
/- Cells of boxes in lists, and small rules for printed walks. -/
namespace Go.Sep
open Go
set_option linter.unusedVariables false
set_option linter.unusedSimpArgs false

/-- A cell of a box. -/
abbrev C := Int × Int × Int
def tri (c : C) : List Value := [.int .i64 c.1, .int .i64 c.2.1, .int .i64 c.2.2]
def triA (c : C) : Value := .agg #[.int .i64 c.1, .int .i64 c.2.1, .int .i64 c.2.2]
def flat : List C → List Value
  | [] => []
  | c :: cs => .int .i64 c.1 :: .int .i64 c.2.1 :: .int .i64 c.2.2 :: flat cs
abbrev at3 (cs : List C) (i : Nat) : C := cs.getD i (0, 0, 0)
abbrev at1 (zs : List Int) (i : Nat) : Int := zs.getD i 0

theorem flat_length : ∀ (cs : List C), (flat cs).length = cs.length * 3
  | [] => rfl
  | c :: cs => by simp only [flat, List.length_cons, flat_length cs]; omega
theorem flat_append : ∀ (a b : List C), flat (a ++ b) = flat a ++ flat b
  | [], _ => rfl
  | c :: a, b => by simp [flat, flat_append a b]
theorem flat_drop : ∀ (k : Nat) (cs : List C), (flat cs).drop (k * 3) = flat (cs.drop k)
  | 0, cs => by simp
  | k + 1, [] => by simp [flat]
  | k + 1, c :: cs => by
    rw [show (k + 1) * 3 = k * 3 + 3 by omega]
    simp only [flat, List.drop_succ_cons]
    exact flat_drop k cs
theorem flat_take : ∀ (k : Nat) (cs : List C), (flat cs).take (k * 3) = flat (cs.take k)
  | 0, cs => by simp [flat]
  | k + 1, [] => by simp [flat]
  | k + 1, c :: cs => by
    rw [show (k + 1) * 3 = k * 3 + 3 by omega]
    simp only [flat, List.take_succ_cons]
    rw [flat_take k cs]
theorem drop_getD {cs : List C} {k : Nat} (h : k < cs.length) : cs.drop k = at3 cs k :: cs.drop (k + 1) := by
  rw [List.drop_eq_getElem_cons h]
  simp [at3, List.getD, h]
theorem flat_at {cs : List C} {k : Nat} (h : k < cs.length) : (0 + k * 3) + 3 ≤ (flat cs).length ∧ ((flat cs).drop (0 + k * 3)).take 3 = tri (at3 cs k) := by
  rw [Nat.zero_add]
  refine ⟨by rw [flat_length]; omega, ?_⟩
  rw [flat_drop, drop_getD h]
  rfl
/-- A number of a cell in a row of cells. -/
theorem flat_get {cs : List C} {k o : Nat} (h : k < cs.length) (ho : o < 3) : (flat cs)[0 + k * 3 + o]? = (tri (at3 cs k))[o]? := by
  have h1 := (flat_at h).2
  rw [← h1, List.getElem?_take, if_pos ho, List.getElem?_drop]
theorem flat_set {cs : List C} {k : Nat} {c : C} (h : k < cs.length) : (flat cs).take (0 + k * 3) ++ tri c ++ (flat cs).drop (0 + k * 3 + 3) = flat (cs.set k c) := by
  rw [Nat.zero_add, flat_take, show k * 3 + 3 = (k + 1) * 3 by omega, flat_drop, List.set_eq_take_append_cons_drop, if_pos h, flat_append, flat, List.append_assoc]
  rfl
theorem ints_at {zs : List Int} {k : Nat} (h : k < zs.length) : (ints zs)[0 + k * 1]? = some (.int .i64 (at1 zs k)) := by
  simp [ints, at1, List.getD, h]
theorem ints_length (zs : List Int) : (ints zs).length = zs.length := by simp [ints]
theorem ints_append (a b : List Int) : ints (a ++ b) = ints a ++ ints b := by simp [ints]
theorem ints_set {zs : List Int} {k : Nat} {z : Int} : (ints zs).set (0 + k * 1) (.int .i64 z) = ints (zs.set k z) := by simp [ints]
theorem zeros_ints : ∀ m, zeros [.int .i64 0] m = ints (List.replicate m 0)
  | 0 => rfl
  | m + 1 => by simp only [zeros, zeros_ints m, List.replicate_succ, ints, List.map_cons]; rfl
theorem zeros_flat : ∀ m, zeros [.int .i64 0, .int .i64 0, .int .i64 0] m = flat (List.replicate m (0, 0, 0))
  | 0 => rfl
  | m + 1 => by simp only [zeros, zeros_flat m, List.replicate_succ, flat]; rfl

/-! ### Rules -/
variable {P : Program} {N : Nat} {ops : Array Oper} {r : List Oper} {K : St → Prop} {ts : Temps} {H : Heap} {n : Nat} {s : St} {Q : Exit → St → Prop} {c d : Code} {id i : Nat}

theorem e_idxSK {t e : TypeId} {x y : Operand} {b o m k : Nat} {sp : Option Nat} {q : IntKind} {j : Int} {sz by' : Nat} {z : List Value} {g : Bool} {d' : TD} {sz' by'' : Nat} {z' : List Value} {g' : Bool} (a : Nat)
    (ht : ti P t = some ⟨.slice e, sz, by', z, g⟩) (hE : ti P e = some ⟨d', sz', by'', z', g'⟩) (hx : ev ts x = some (.slice (some ⟨b, o, sp⟩) m k)) (hi : ev ts y = some (.int q j)) (hj : j = (a : Int)) (hb : a < m) :
    E P (.indexAddr t x y) ts H n (.pointer (some ⟨b, o + a * sz', none⟩)) H n := by
  subst hj
  exact e_idxS (j := (a : Int)) ht hE hx hi ⟨by omega, by omega⟩
theorem e_idxAK {t e : TypeId} {x y : Operand} {b o m : Nat} {sp : Option Nat} {q : IntKind} {j : Int} {sz by' : Nat} {z : List Value} {g : Bool} {d' : TD} {sz' by'' : Nat} {z' : List Value} {g' : Bool} (a : Nat)
    (ht : ti P t = some ⟨.array m e, sz, by', z, g⟩) (hE : ti P e = some ⟨d', sz', by'', z', g'⟩) (hx : ev ts x = some (.pointer (some ⟨b, o, sp⟩))) (hi : ev ts y = some (.int q j)) (hj : j = (a : Int)) (hb : a < m) :
    E P (.indexAddr t x y) ts H n (.pointer (some ⟨b, o + a * sz', none⟩)) H n := by
  subst hj
  exact e_idxA (j := (a : Int)) ht hE hx hi ⟨by omega, by omega⟩

theorem e_sliceA {t e : TypeId} {x : Operand} {b o m : Nat} {sp : Option Nat} {ro : Bool} {cs : List Value} {sz by' : Nat} {z : List Value} {g : Bool} {d' : TD} {sz' by'' : Nat} {z' : List Value} {g' : Bool}
    (ht : ti P t = some ⟨.array (m + 1) e, sz, by', z, g⟩) (hE : ti P e = some ⟨d', sz', by'', z', g'⟩) (hx : ev ts x = some (.pointer (some ⟨b, o, sp⟩))) (hH : H b = some (.cells ro cs)) (hl : o + (m + 1) * sz' ≤ cs.length) :
    E P (.slice t x none none none) ts H n (.slice (some ⟨b, o, none⟩) (m + 1) sz') H n := by
  refine ⟨?_, rfl⟩
  simp only [cop, evO, ev1, hx, cSlice, ht, hE, hH]
  rw [if_pos hl]
  simp [cBounds, withH]

theorem sameInts_tri (a b : C) : sameInts [Value.int .i64 a.1, .int .i64 a.2.1, .int .i64 a.2.2] [.int .i64 b.1, .int .i64 b.2.1, .int .i64 b.2.2] = some (decide (a = b)) := by
  obtain ⟨a1, a2, a3⟩ := a
  obtain ⟨b1, b2, b3⟩ := b
  simp only [sameInts, Prod.mk.injEq]
  by_cases h1 : a1 = b1 <;> by_cases h2 : a2 = b2 <;> by_cases h3 : a3 = b3 <;> simp [h1, h2, h3]
/-- '==' of two cells. -/
theorem e_eqA3 {t e u : TypeId} {x y : Operand} {a b : C} {by' : Nat} {z : List Value} {by'' : Nat} {z' : List Value} {g' : Bool} (ht : ti P t = some ⟨.array 3 e, 3, by', z, false⟩) (hE : ti P e = some ⟨.int .i64, 1, by'', z', g'⟩)
    (hx : ev ts x = some (.agg #[.int .i64 a.1, .int .i64 a.2.1, .int .i64 a.2.2])) (hy : ev ts y = some (.agg #[.int .i64 b.1, .int .i64 b.2.1, .int .i64 b.2.2])) : E P (.binOp .eql t x y u) ts H n (.bool (decide (a = b))) H n := by
  refine ⟨?_, rfl⟩
  simp only [cop, ev2, hx, hy, cBin, cEq, ht, hE]
  rw [if_pos ⟨trivial, trivial, rfl, rfl⟩, sameInts_tri]
  rfl
section drawnStore
variable {op : Op} {ty : TypeId} {pos : String} {after : Array Edge} {gd : Option (Nat × Bool)} {v : Value} {m j b : Nat} {ms : List Nat} {acc : List (Nat × Foot)} {cb : Blk}
/-- A store in a drawn region. -/
theorem dSt (hw : wantC ops ⟨none, op, ty, pos, after, gd⟩ ts = some true) (hkd : kindOf op ts = .eff 0 0 []) (he : E P op ts (hide (hidden m acc) n H) n v ((hide (hidden m acc) n H).set b cb) n) (hb : b < n) (hu : b ∉ hidden m acc)
    (ha : accOk m (.eff n n [b]) acc) (hk : wopsD P N ops r ms (j + 1) ((j, .eff n n [b]) :: acc) ⟨ts, H.set b cb, n⟩ K) : wopsD P N ops (⟨none, op, ty, pos, after, gd⟩ :: r) (m :: ms) j acc ⟨ts, H, n⟩ K := by
  simp only [wopsD, okDst, hw, hkd, putT]
  refine ⟨trivial, [b], by simpa using ⟨hb, hu⟩, ?_⟩
  simp only [stepOp, he.c, he.h]
  refine ⟨Nat.le_refl _, fun y hy hyb hu' => ?_, ha, ?_⟩
  · rw [Heap.set_ne _ _ (by simpa using hyb)]; unfold hide; rw [if_pos ⟨hy, hu'⟩]
  · have : unhide (hidden m acc) n H ((hide (hidden m acc) n H).set b cb) = H.set b cb := by
      funext y
      unfold unhide
      by_cases e : y = b
      · subst e; rw [if_pos ⟨hb, hu⟩, Heap.set_same, Heap.set_same]
      · rw [Heap.set_ne _ _ e, Heap.set_ne _ _ e]
        split
        · rename_i hh; unfold hide; rw [if_pos hh]
        · rfl
    rw [this]; exact hk
end drawnStore

theorem W.ord {ts' : Temps} (D : List Nat) (he : keepT D ts = ts') (h : W P N c ⟨ts', H, n⟩ Q) : W P N c ⟨ts, H, n⟩ Q := W.less (Less.keep D ts H n) (he ▸ h)
theorem thenN (h : W P N d s Q) : thenS (fun s1 => W P N d s1 Q) Q .normal s := h
theorem thenE {R : St → Prop} (h : Q (.exit i) s) : thenS R Q (.exit i) s := h
theorem thenR {R : St → Prop} (h : Q .ret s) : thenS R Q .ret s := h
theorem blockN (h : Q .normal s) : blockS id Q .normal s := h
theorem blockR (h : Q .ret s) : blockS id Q .ret s := h
theorem blockX (h : Q .normal s) : blockS id Q (.exit id) s := by simpa [blockS] using h
theorem blockE (hi : (i == id) = false) (h : Q (.exit i) s) : blockS id Q (.exit i) s := by
  simp only [blockS]; rw [if_neg (by simpa using hi)]; exact h
/-- The end of a loop's round. -/
theorem roundN {C : Temps} {G0 : Heap} {m0 k : Nat} {U : List Nat} {Inv : Nat → Temps → Heap → Nat → Prop} {V' : Temps} {G : Heap} {m : Nat} (D : List Nat) (he : keepT D ts = V' ++ C) (hm : m0 ≤ m) (hk : Keeps U m0 G0 G) (k' : Nat) (hlt : k' < k) (hI : Inv k' V' G m) :
    thenS (roundQ C G0 m0 U Inv k) Q .normal ⟨ts, G, m⟩ := ⟨V', he ▸ Less.keep D ts G m, hm, hk, k', hlt, hI⟩
theorem lt_fresh {H : Heap} {n b : Nat} {c : Blk} (hf : ∀ x, n ≤ x → H x = none) (hb : H b = some c) : b < n := by
  rcases Nat.lt_or_ge b n with g | g
  · exact g
  · rw [hf b g] at hb; simp at hb

theorem Ends.v0 {fn : Func} {H : Heap} {n : Nat} {v v' : Value} (hle : ∀ x b, x < n → H x = some b → s.H x = some b) (hH : ∀ x, n ≤ x → H x = none) (hv : ltT n v = true) (hres : resOf P s fn.results.toList = some v') (he : v' = v) :
    Ends P fn H n s v H n := Ends.r0 hle hH hv (he ▸ hres)
theorem Ends.v1 {fn : Func} {H : Heap} {n : Nat} {v v' : Value} (m : Nat) {cs cs' : List Value} (hm : n ≤ m) (hle : ∀ x b, x < n → H x = some b → s.H x = some b) (hH : ∀ x, n ≤ x → H x = none)
    (hb : s.H m = some (.cells false cs')) (hcs : cs' = cs) (hp : cs.all plainA = true) (hv : ltT (n + 1) v = true) (hres : resOf P s fn.results.toList = some v') (he : v' = renT (one n m) v) :
    Ends P fn H n s v (H.set n (.cells false cs)) (n + 1) := Ends.r1 m cs hm hle hH (hcs ▸ hb) hp hv (he ▸ hres)

theorem resT {t : Nat} {v : Value} (h : get s.ts t = some v) : resOne P s (.tmp t) = some v := h
theorem resC {a b o : Nat} {sp : Option Nat} {t : TypeId} {ro : Bool} {cs : List Value} {dd : TD} {sz by' : Nat} {z : List Value} {g : Bool} (ht : ti P t = some ⟨dd, sz, by', z, g⟩) (hd : dd.agg = true) (h : get s.ts a = some (.pointer (some ⟨b, o, sp⟩)))
    (hH : s.H b = some (.cells ro cs)) (h0 : o = 0) (hl : cs.length = sz) : resOne P s (.cell a t) = some (.agg (List.toArray cs)) := by
  subst h0
  simp only [resOne, h, cLoad, ht, hH, loadC, hd, if_true]
  rw [if_pos (by omega), List.drop_zero, List.take_of_length_le (by omega)]
theorem resC1 {a b o : Nat} {sp : Option Nat} {t : TypeId} {ro : Bool} {cs : List Value} {dd : TD} {sz by' : Nat} {z : List Value} {g : Bool} {v : Value} (ht : ti P t = some ⟨dd, sz, by', z, g⟩) (hd : dd.agg = false) (h : get s.ts a = some (.pointer (some ⟨b, o, sp⟩)))
    (hH : s.H b = some (.cells ro cs)) (hl : cs[o]? = some v) : resOne P s (.cell a t) = some v := by
  simp only [resOne, h, cLoad, ht, hH, loadC, hd]
  exact hl
theorem res1 {r : ResultVar} {v : Value} (h : resOne P s r = some v) (ht : isTuple v = false) : resOf P s [r] = some v := by
  simp only [resOf, resAll, h, ht]; rfl
theorem res2 {r r' : ResultVar} {v v' : Value} (h : resOne P s r = some v) (h' : resOne P s r' = some v') (ht : isTuple v = false) (ht' : isTuple v' = false) : resOf P s [r, r'] = some (.tuple #[v, v']) := by
  simp only [resOf, resAll, h, h', List.all_cons, ht, ht']; rfl
theorem res3 {r r' r'' : ResultVar} {v v' v'' : Value} (h : resOne P s r = some v) (h' : resOne P s r' = some v') (h'' : resOne P s r'' = some v'') (ht : isTuple v = false) (ht' : isTuple v' = false) (ht'' : isTuple v'' = false) :
    resOf P s [r, r', r''] = some (.tuple #[v, v', v'']) := by
  simp only [resOf, resAll, h, h', h'', List.all_cons, ht, ht', ht'']; rfl

theorem hide_old {H G : Heap} {r n : Nat} {U : List Nat} (h : ∀ x b, x < r → H x = some b → G x = some b) (hr : r ≤ n) (hU : ∀ x ∈ U, r ≤ x) : ∀ x b, x < r → H x = some b → (hide U n G) x = some b := fun x b hx hb => by
  unfold hide; rw [if_pos ⟨by omega, fun hu => by have := hU x hu; omega⟩]; exact h x b hx hb
theorem e_eqB {x y : Operand} {a b : Bool} {t u : TypeId} {sz by' : Nat} {z : List Value} {g : Bool} (ht : ti P t = some ⟨.bool, sz, by', z, g⟩) (hx : ev ts x = some (.bool a)) (hy : ev ts y = some (.bool b)) :
    E P (.binOp .eql t x y u) ts H n (.bool (a == b)) H n := ⟨by simp only [cop, ev2, hx, hy, cBin, cEq, ht]; rfl, rfl⟩
theorem e_neqB {x y : Operand} {a b : Bool} {t u : TypeId} {sz by' : Nat} {z : List Value} {g : Bool} (ht : ti P t = some ⟨.bool, sz, by', z, g⟩) (hx : ev ts x = some (.bool a)) (hy : ev ts y = some (.bool b)) :
    E P (.binOp .neq t x y u) ts H n (.bool !(a == b)) H n := ⟨by simp only [cop, ev2, hx, hy, cBin, cEq, ht]; rfl, rfl⟩
/-- What the text of a drawn region says alone. -/
def accB (m : Nat) (f : Foot) : List (Nat × Foot) → Bool
  | [] => true
  | (i, g) :: r => (m.testBit i || match g, f with
    | .load _, .load _ => true
    | _, _ => false) && accB m f r
theorem accB_ok {m : Nat} {f : Foot} : ∀ {acc : List (Nat × Foot)}, accB m f acc = true → accOk m f acc
  | [], _ => trivial
  | (i, g) :: r, h => by
    simp only [accB, Bool.and_eq_true, Bool.or_eq_true] at h
    refine ⟨?_, accB_ok h.2⟩
    rcases h.1 with h1 | h1
    · exact .inl h1
    · refine .inr ?_
      cases g <;> cases f <;> simp at h1
      trivial

/-- The old heap, but for some blocks. -/
def OldBut (U : List Nat) (n : Nat) (H G : Heap) : Prop := ∀ x c, x < n → x ∉ U → H x = some c → G x = some c
theorem OldBut.self {U : List Nat} {n : Nat} {H : Heap} : OldBut U n H H := fun _ _ _ _ h => h
theorem OldBut.set {U : List Nat} {n x : Nat} {H G : Heap} {b : Blk} (h : OldBut U n H G) (hx : n ≤ x ∨ x ∈ U) : OldBut U n H (G.set x b) := fun y c hy hu hc => by
  rw [Heap.set_ne _ _ (by rcases hx with g | g; omega; exact fun e => hu (e ▸ g))]; exact h y c hy hu hc
theorem OldBut.keep {U U' : List Nat} {n m : Nat} {H G0 G : Heap} (hk : Keeps U' m G0 G) (h : OldBut U n H G0) (hm : n ≤ m) (hU : ∀ x ∈ U', n ≤ x ∨ x ∈ U) : OldBut U n H G := fun y c hy hu hc => by
  rw [hk y (by omega) (fun hh => by rcases hU y hh with g | g; omega; exact hu g)]; exact h y c hy hu hc
/-- One old block written anew. -/
theorem Ends.vU {fn : Func} {H : Heap} {n b : Nat} {v v' : Value} {cs cs' : List Value} (hb : b < n) (hle : OldBut [b] n H s.H) (hH : ∀ x, n ≤ x → H x = none) (hbk : s.H b = some (.cells false cs')) (hcs : cs' = cs) (hp : cs.all plainA = true)
    (hv : ltT n v = true) (hres : resOf P s fn.results.toList = some v') (he : v' = v) : Ends P fn H n s v (H.set b (.cells false cs)) n := by
  subst hcs he
  refine ⟨id, fun _ _ => rfl, by rw [hres]; congr 1; exact (renT_id _).symm, hv, fun x c hx => ?_, fun x y _ _ h => h⟩
  by_cases e : x = b
  · subst e
    rw [Heap.set_same] at hx
    obtain rfl := Option.some.inj hx
    refine .inr ⟨hb, ?_⟩
    simp only [id, hbk]
    exact ⟨rfl, plain_ren hp _⟩
  · rw [Heap.set_ne _ _ e] at hx
    have hlt : x < n := by
      rcases Nat.lt_or_ge x n with g | g
      · exact g
      · rw [hH x g] at hx; simp at hx
    exact .inl ⟨hlt, hx, hle x c hlt (by simpa using e) hx⟩

theorem e_makeK {t e : TypeId} {x y : Operand} {a : Int} {sz by' : Nat} {z : List Value} {g : Bool} {d' : TD} {sz' by'' : Nat} {z' : List Value} {g' : Bool} (m : Nat)
    (ht : ti P t = some ⟨.slice e, sz, by', z, g⟩) (hE : ti P e = some ⟨d', sz', by'', z', g'⟩) (hx : ev ts x = some (.int .i64 a)) (hy : ev ts y = some (.int .i64 a)) (hm : a = (m : Int))
    (hk : by'' ≤ 2 ^ 16 ∧ z'.length = sz' ∧ z'.all konst0 = true) (hlt : m ≤ 2 ^ 30) :
    E P (.makeSlice t x y) ts H n (.slice (some ⟨n, 0, none⟩) m sz') (H.set n (.cells false (zeros z' m))) (n + 1) := by
  subst hm; exact e_make ht hE hx hy hk hlt

theorem ints_plain (zs : List Int) : (ints zs).all plainA = true := by simp [ints, plainA]
theorem flat_plain : ∀ cs : List C, (flat cs).all plainA = true
  | [] => rfl
  | c :: cs => by simp [flat, plainA, flat_plain cs]
theorem keep_old {H G0 G : Heap} {n m : Nat} {U : List Nat} (hk : Keeps U m G0 G) (h : ∀ x b, x < n → H x = some b → G0 x = some b) (hm : n ≤ m) (hU : ∀ x ∈ U, n ≤ x) : ∀ x b, x < n → H x = some b → G x = some b := fun x b hx hb => by
  rw [hk x (by omega) (fun hu => by have := hU x hu; omega)]; exact h x b hx hb

end Go.Sep
/- What the functions compute, in plain lists and numbers. -/
namespace Go.Sep
open Go
set_option linter.unusedVariables false
set_option linter.unusedSimpArgs false

/-! ### Boxes, cells, heaps -/
def within (a b c : Int) : Bool := decide (b ≤ a) && decide (a ≤ c)
def sides (X Y Z : Int) : Bool := within X 1 4 && within Y 1 4 && within Z 1 4
theorem sides_bd {X Y Z : Int} (h : sides X Y Z = true) : (1 ≤ X ∧ X ≤ 4) ∧ (1 ≤ Y ∧ Y ≤ 4) ∧ (1 ≤ Z ∧ Z ≤ 4) := by
  simp [sides, within] at h; omega
def inBox (X Y Z : Int) (c : C) : Bool := within c.1 0 (X - 1) && within c.2.1 0 (Y - 1) && within c.2.2 0 (Z - 1)
theorem inBox_bd {X Y Z : Int} {c : C} (h : inBox X Y Z c = true) : (0 ≤ c.1 ∧ c.1 < X) ∧ (0 ≤ c.2.1 ∧ c.2.1 < Y) ∧ (0 ≤ c.2.2 ∧ c.2.2 < Z) := by
  simp [inBox, within] at h; omega

def cmpI (a b : Int) : Int := if a < b then -1 else if b < a then 1 else 0
def cmpL : List Int → List Int → Int
  | [], [] => 0
  | [], _ :: _ => -1
  | _ :: _, [] => 1
  | a :: x, b :: y => if cmpI a b = 0 then cmpL x y else cmpI a b
def cmpC (a b : C) : Int := cmpL [a.1, a.2.1, a.2.2] [b.1, b.2.1, b.2.2]
theorem cmpL_bd : ∀ (x y : List Int), -1 ≤ cmpL x y ∧ cmpL x y ≤ 1
  | [], [] => by simp [cmpL]
  | [], _ :: _ => by simp [cmpL]
  | _ :: _, [] => by simp [cmpL]
  | a :: x, b :: y => by
    have := cmpL_bd x y
    simp only [cmpL]
    split
    · exact this
    · simp only [cmpI]
      split
      · omega
      · split <;> omega
theorem cmpL_drop {x y : List Int} {i : Nat} (hx : i < x.length) (hy : i < y.length) : cmpL (x.drop i) (y.drop i) = if cmpI (at1 x i) (at1 y i) = 0 then cmpL (x.drop (i + 1)) (y.drop (i + 1)) else cmpI (at1 x i) (at1 y i) := by
  rw [List.drop_eq_getElem_cons hx, List.drop_eq_getElem_cons hy]
  simp [cmpL, at1, List.getD, hx, hy]
theorem cmpL_e1 {x y : List Int} {i : Nat} (hq : cmpL x y = cmpL (x.drop i) (y.drop i)) (hx : i < x.length) (hy : y.length ≤ i) : cmpL x y = 1 := by
  rw [hq, List.drop_eq_getElem_cons hx, List.drop_eq_nil_of_le hy]; rfl
theorem cmpL_e2 {x y : List Int} {i : Nat} (hq : cmpL x y = cmpL (x.drop i) (y.drop i)) (hx : x.length ≤ i) (hy : i < y.length) : cmpL x y = -1 := by
  rw [hq, List.drop_eq_getElem_cons hy, List.drop_eq_nil_of_le hx]; rfl
theorem cmpL_e3 {x y : List Int} {i : Nat} (hq : cmpL x y = cmpL (x.drop i) (y.drop i)) (hx : x.length ≤ i) (hy : y.length ≤ i) : cmpL x y = 0 := by
  rw [hq, List.drop_eq_nil_of_le hx, List.drop_eq_nil_of_le hy]; rfl
/-- One cell comes before another one. -/
def before (a b : C) : Bool := if a.1 ≠ b.1 then decide (a.1 < b.1) else if a.2.1 ≠ b.2.1 then decide (a.2.1 < b.2.1) else if a.2.2 ≠ b.2.2 then decide (a.2.2 < b.2.2) else false
theorem cmpC_before (a b : C) : decide (0 ≤ cmpC a b) = !before a b := by
  simp only [cmpC, cmpL, cmpI, before]
  by_cases h1 : a.1 < b.1 <;> by_cases h2 : b.1 < a.1 <;> by_cases h3 : a.2.1 < b.2.1 <;> by_cases h4 : b.2.1 < a.2.1 <;> by_cases h5 : a.2.2 < b.2.2 <;> by_cases h6 : b.2.2 < a.2.2 <;>
    simp [h1, h2, h3, h4, h5, h6] <;> omega
def okAt (X Y Z : Int) (cs : List C) (j : Nat) : Bool := inBox X Y Z (at3 cs j) && (decide (j = 0) || before (at3 cs (j - 1)) (at3 cs j))
theorem okAt_no1 {X Y Z : Int} {cs : List C} {i : Nat} (h : inBox X Y Z (at3 cs i) = false) : okAt X Y Z cs i = false := by simp only [okAt, h, Bool.false_and]
theorem okAt_no2 {X Y Z : Int} {cs : List C} {i : Nat} (hi : 0 < i) (h : 0 ≤ cmpC (at3 cs (i - 1)) (at3 cs i)) : okAt X Y Z cs i = false := by
  have := cmpC_before (at3 cs (i - 1)) (at3 cs i)
  simp only [h, decide_true] at this
  have hb : before (at3 cs (i - 1)) (at3 cs i) = false := by simpa using this.symm
  simp only [okAt, hb, Bool.or_false, Bool.and_eq_false_iff, decide_eq_false_iff_not]
  exact .inr (by omega)
theorem okAt_yes1 {X Y Z : Int} {cs : List C} {i : Nat} (h : inBox X Y Z (at3 cs i) = true) (hi : i = 0) : okAt X Y Z cs i = true := by simp only [okAt, h, hi, decide_true, Bool.true_or, Bool.and_true]; rw [← hi]; exact h
theorem okAt_yes2 {X Y Z : Int} {cs : List C} {i : Nat} (h : inBox X Y Z (at3 cs i) = true) (hc : ¬ 0 ≤ cmpC (at3 cs (i - 1)) (at3 cs i)) : okAt X Y Z cs i = true := by
  have := cmpC_before (at3 cs (i - 1)) (at3 cs i)
  simp only [hc, decide_false] at this
  have hb : before (at3 cs (i - 1)) (at3 cs i) = true := by simpa using this.symm
  simp only [okAt, h, hb, Bool.or_true, Bool.and_true]
theorem okAt_no3 {X Y Z : Int} {cs : List C} {i : Nat} (hi : 0 < i) (h : before (at3 cs (i - 1)) (at3 cs i) = false) : okAt X Y Z cs i = false := by
  simp only [okAt, h, Bool.or_false, Bool.and_eq_false_iff, decide_eq_false_iff_not]
  exact .inr (by omega)
theorem okAt_yes3 {X Y Z : Int} {cs : List C} {i : Nat} (h : inBox X Y Z (at3 cs i) = true) (hc : before (at3 cs (i - 1)) (at3 cs i) = true) : okAt X Y Z cs i = true := by
  simp only [okAt, h, hc, Bool.or_true, Bool.and_true]
theorem all_succ {p : Nat → Prop} {i : Nat} (h : ∀ j, j < i → p j) (hi : p i) : ∀ j, j < i + 1 → p j := fun j hj => by
  rcases Nat.lt_or_ge j i with g | g
  · exact h j g
  · obtain rfl : j = i := by omega
    exact hi
def isHeap (X Y Z : Int) (cs : List C) : Bool := sides X Y Z && (List.range cs.length).all (okAt X Y Z cs)
theorem isHeap_no1 {X Y Z : Int} {cs : List C} (h : sides X Y Z = false) : isHeap X Y Z cs = false := by simp [isHeap, h]
theorem isHeap_no2 {X Y Z : Int} {cs : List C} {i : Nat} (hi : i < cs.length) (h : okAt X Y Z cs i = false) : isHeap X Y Z cs = false := by
  simp only [isHeap, Bool.and_eq_false_iff, List.all_eq_false]
  exact .inr ⟨i, by simpa using hi, by simp [h]⟩
theorem isHeap_yes {X Y Z : Int} {cs : List C} (h : sides X Y Z = true) (ha : ∀ j, j < cs.length → okAt X Y Z cs j = true) : isHeap X Y Z cs = true := by
  simp only [isHeap, h, Bool.true_and, List.all_eq_true]
  intro j hj
  exact ha j (by simpa using hj)
theorem isHeap_sides {X Y Z : Int} {cs : List C} (h : isHeap X Y Z cs = true) : sides X Y Z = true := by simp [isHeap] at h; exact h.1
theorem isHeap_at {X Y Z : Int} {cs : List C} (h : isHeap X Y Z cs = true) {j : Nat} (hj : j < cs.length) : okAt X Y Z cs j = true := by simp [isHeap] at h; exact h.2 j hj
theorem isHeap_in {X Y Z : Int} {cs : List C} (h : isHeap X Y Z cs = true) {j : Nat} (hj : j < cs.length) : inBox X Y Z (at3 cs j) = true := by
  have := isHeap_at h hj; simp [okAt] at this; exact this.1

/-! ### Numbers of a cell -/
def ci (c : C) (j : Nat) : Int := if j = 0 then c.1 else if j = 1 then c.2.1 else c.2.2
theorem tri_get {c : C} {j : Nat} (h : j < 3) : (tri c)[0 + j * 1]? = some (.int .i64 (ci c j)) := by
  rcases j with _ | _ | _ | j
  · rfl
  · rfl
  · rfl
  · omega
theorem tri_getL {a b c : Int} {j : Nat} (h : j < 3) : [Value.int .i64 a, Value.int .i64 b, Value.int .i64 c][0 + j * 1]? = some (.int .i64 (ci (a, b, c) j)) := tri_get (c := (a, b, c)) h
theorem flat_getJ {cs : List C} {k j : Nat} (h : k < cs.length) (hj : j < 3) : (flat cs)[0 + k * 3 + j * 1]? = some (.int .i64 (ci (at3 cs k) j)) := by
  have := flat_get (cs := cs) (k := k) (o := j) h hj
  rw [show 0 + k * 3 + j * 1 = 0 + k * 3 + j by omega, this]
  rcases j with _ | _ | _ | j
  · rfl
  · rfl
  · rfl
  · omega
theorem ci_ext {a b : C} (h : ∀ j, j < 3 → ci a j = ci b j) : a = b := by
  obtain ⟨a1, a2, a3⟩ := a
  obtain ⟨b1, b2, b3⟩ := b
  have h0 := h 0 (by omega)
  have h1 := h 1 (by omega)
  have h2 := h 2 (by omega)
  simp [ci] at h0 h1 h2
  simp [h0, h1, h2]
theorem before_at {a b : C} {i : Nat} (hi : i < 3) (hq : ∀ j, j < i → ci a j = ci b j) (hne : ¬ ci a i = ci b i) : before a b = decide (ci a i < ci b i) := by
  rcases i with _ | _ | _ | i
  · simp [ci] at hne; simp [before, ci, hne]
  · have h0 := hq 0 (by omega)
    simp [ci] at hne h0; simp [before, ci, hne, h0]
  · have h0 := hq 0 (by omega)
    have h1 := hq 1 (by omega)
    simp [ci] at hne h0 h1; simp [before, ci, hne, h0, h1]
  · omega
theorem before_no {a b : C} (hq : ∀ j, j < 3 → ci a j = ci b j) : before a b = false := by
  rw [ci_ext hq]; simp [before]

/-! ### Copies -/
def copyT (c : C) (i : Nat) : List Value := (tri c).take i ++ (tri (0, 0, 0)).drop i
theorem copyT_set {c : C} {i : Nat} (h : i < 3) : (copyT c i).set (0 + i * 1) (.int .i64 (ci c i)) = copyT c (i + 1) := by
  rcases i with _ | _ | _ | i
  · rfl
  · rfl
  · rfl
  · omega
theorem copyT_length {c : C} {i : Nat} (h : i ≤ 3) : (copyT c i).length = 3 := by
  rcases i with _ | _ | _ | _ | i
  · rfl
  · rfl
  · rfl
  · rfl
  · omega
def copyC (cs : List C) (i : Nat) : List C := cs.take i ++ List.replicate (cs.length - i) (0, 0, 0)
theorem copyC_length {cs : List C} {i : Nat} (h : i ≤ cs.length) : (copyC cs i).length = cs.length := by simp [copyC]; omega
theorem copyC_set {cs : List C} {i : Nat} (h : i < cs.length) : (copyC cs i).set i (at3 cs i) = copyC cs (i + 1) := by
  unfold copyC
  rw [List.set_append_right _ _ (by simp; omega)]
  rw [show i - (cs.take i).length = 0 by simp; omega, show cs.length - i = (cs.length - (i + 1)) + 1 by omega, List.replicate_succ, List.set_cons_zero]
  rw [List.take_add_one, show cs[i]? = some (at3 cs i) by simp [at3, List.getD, h]]
  simp
theorem copyC_all (cs : List C) : copyC cs cs.length = cs := by simp [copyC]
theorem copyC_zero (cs : List C) : copyC cs 0 = List.replicate cs.length (0, 0, 0) := by simp [copyC]

/-! ### Marks -/
def markV (k : Int) (m : Nat) (vs : List Value) : List Value := ((List.range m).map fun (q : Nat) => Value.int .i64 (k + (q : Int))) ++ vs.drop m
theorem markV_zero (k : Int) (vs : List Value) : markV k 0 vs = vs := by simp [markV]
theorem markV_length {k : Int} {m : Nat} {vs : List Value} (h : m ≤ vs.length) : (markV k m vs).length = vs.length := by simp [markV]; omega
theorem markV_set {k : Int} {m : Nat} {vs : List Value} {z : Int} (h : m < vs.length) (hz : z = k + (m : Int)) : (markV k m vs).set m (.int .i64 z) = markV k (m + 1) vs := by
  subst hz
  unfold markV
  rw [List.set_append_right _ _ (by simp), List.length_map, List.length_range, Nat.sub_self, List.drop_eq_getElem_cons h, List.set_cons_zero, List.range_succ, List.map_append]
  simp
theorem markV_plain {k : Int} {m : Nat} {vs : List Value} (h : vs.all plainA = true) : (markV k m vs).all plainA = true := by
  simp only [markV, List.all_append, Bool.and_eq_true, List.all_eq_true]
  rw [List.all_eq_true] at h
  refine ⟨fun v hv => ?_, fun v hv => h v (List.mem_of_mem_drop hv)⟩
  simp only [List.mem_map] at hv
  obtain ⟨q, _, rfl⟩ := hv
  rfl
def upto (k : Int) (m : Nat) : List Int := (List.range m).map fun (q : Nat) => k + (q : Int)
theorem upto_length (k : Int) (m : Nat) : (upto k m).length = m := by simp [upto]
theorem upto_at {k : Int} {m i : Nat} (h : i < m) : at1 (upto k m) i = k + (i : Int) := by simp [upto, at1, List.getD, h]
theorem markV_ints (k : Int) (zs : List Int) : markV k zs.length (ints zs) = ints (upto k zs.length) := by
  rw [markV, List.drop_eq_nil_of_le (by simp [ints]), List.append_nil, ints, upto, List.map_map]
  rfl
def markC (k : Int) : Nat → List C
  | 0 => []
  | m + 1 => (k, k + 1, k + 2) :: markC (k + 3) m
theorem markC_length : ∀ (k : Int) (m : Nat), (markC k m).length = m
  | _, 0 => rfl
  | k, m + 1 => by simp [markC, markC_length (k + 3) m]
theorem flat_markC : ∀ (k : Int) (m : Nat), flat (markC k m) = (List.range (3 * m)).map fun (q : Nat) => Value.int .i64 (k + (q : Int))
  | _, 0 => rfl
  | k, m + 1 => by
    rw [markC, flat, flat_markC (k + 3) m, show 3 * (m + 1) = 3 * m + 1 + 1 + 1 by omega]
    simp only [List.range_succ_eq_map, List.map_cons, List.map_map]
    congr 1
    · simp
    congr 1
    congr 1
    refine List.map_congr_left fun q _ => ?_
    simp only [Function.comp, Nat.succ_eq_add_one, Int.natCast_add, Int.cast_ofNat_Int]
    congr 1
    omega
theorem markV_flat (k : Int) (cs : List C) : markV k (3 * cs.length) (flat cs) = flat (markC k cs.length) := by
  rw [flat_markC, markV, List.drop_eq_nil_of_le (by rw [flat_length]; omega), List.append_nil]
theorem markC_at : ∀ {k : Int} {m i : Nat}, i < m → at3 (markC k m) i = (k + 3 * (i : Int), k + 3 * (i : Int) + 1, k + 3 * (i : Int) + 2)
  | k, m + 1, 0, _ => by simp [markC, at3, List.getD]
  | k, m + 1, i + 1, h => by
    have := markC_at (k := k + 3) (m := m) (i := i) (by omega)
    simp only [at3, List.getD, markC, List.getElem?_cons_succ] at this ⊢
    rw [this]
    simp only [Prod.mk.injEq, Int.natCast_add, Int.cast_ofNat_Int]
    omega
/-- What `held..` says of a row of cells. -/
def heldC (k : Int) (cs : List C) : Int := if cs = markC k cs.length then k + 3 * (cs.length : Int) else -1
theorem heldC_no {k : Int} {cs : List C} {i j : Nat} (hi : i < cs.length) (hj : j < 3) (h : ¬ ci (at3 cs i) j = k + 3 * (i : Int) + (j : Int)) : heldC k cs = -1 := by
  unfold heldC
  rw [if_neg]
  intro e
  apply h
  rw [e, markC_at hi]
  rcases j with _ | _ | _ | j
  · simp [ci]
  · simp [ci]
  · simp [ci]
  · omega
theorem heldC_yes {k : Int} {cs : List C} (h : ∀ i, i < cs.length → ∀ j, j < 3 → ci (at3 cs i) j = k + 3 * (i : Int) + (j : Int)) : heldC k cs = k + 3 * (cs.length : Int) := by
  unfold heldC
  rw [if_pos]
  refine List.ext_getElem (markC_length _ _).symm fun i h1 h2 => ?_
  have e1 : at3 cs i = cs[i] := by simp [at3, List.getD, h1]
  have e2 : at3 (markC k cs.length) i = (markC k cs.length)[i] := by simp [at3, List.getD, h2]
  rw [← e1, ← e2, markC_at h1]
  apply ci_ext
  intro j hj
  rw [h i h1 j hj]
  rcases j with _ | _ | _ | j
  · simp [ci]
  · simp [ci]
  · simp [ci]
  · omega
theorem heldC_bd {k : Int} {cs : List C} (h : 0 ≤ k) : heldC k cs = -1 ∨ 0 ≤ heldC k cs := by unfold heldC; split <;> omega
def heldI (k : Int) (zs : List Int) : Int := if zs = upto k zs.length then k + (zs.length : Int) else -1
theorem heldI_no {k : Int} {zs : List Int} {i : Nat} (hi : i < zs.length) (h : ¬ at1 zs i = k + (i : Int)) : heldI k zs = -1 := by
  unfold heldI
  rw [if_neg]
  intro e
  exact h (by rw [e, upto_at hi])
theorem heldI_yes {k : Int} {zs : List Int} (h : ∀ i, i < zs.length → at1 zs i = k + (i : Int)) : heldI k zs = k + (zs.length : Int) := by
  unfold heldI
  rw [if_pos]
  refine List.ext_getElem (upto_length _ _).symm fun i h1 h2 => ?_
  have e1 : at1 zs i = zs[i] := by simp [at1, List.getD, h1]
  have e2 : at1 (upto k zs.length) i = (upto k zs.length)[i] := by simp [at1, List.getD, h2]
  rw [← e1, ← e2, upto_at h1, h i h1]
theorem heldC_mark (k : Int) (m : Nat) : heldC k (markC k m) = k + 3 * (m : Int) := by simp [heldC, markC_length]
theorem heldI_mark (k : Int) (m : Nat) : heldI k (upto k m) = k + (m : Int) := by simp [heldI, upto_length]

theorem ext1 {x y : List Int} (hl : x.length = y.length) (h : ∀ i, i < x.length → at1 x i = at1 y i) : x = y := by
  refine List.ext_getElem hl fun i h1 h2 => ?_
  have := h i h1
  simpa [at1, List.getD, h1, h2] using this
theorem ext3 {x y : List C} (hl : x.length = y.length) (h : ∀ i, i < x.length → at3 x i = at3 y i) : x = y := by
  refine List.ext_getElem hl fun i h1 h2 => ?_
  have := h i h1
  simpa [at3, List.getD, h1, h2] using this

/-! ### A slice of cells that a law was handed -/
def RowC (H : Heap) (n : Nat) (sv : Value) (cs : List C) : Prop :=
  (cs = [] ∧ sv = .slice none 0 2) ∨ ∃ b, b < n ∧ sv = .slice (some ⟨b, 0, none⟩) cs.length 3 ∧ H b = some (.cells true (flat cs))
theorem RowC.form {H : Heap} {n : Nat} {sv : Value} {cs : List C} (h : RowC H n sv cs) : ∃ p e, sv = .slice p cs.length e := by
  rcases h with ⟨rfl, rfl⟩ | ⟨b, _, rfl, _⟩
  · exact ⟨_, _, rfl⟩
  · exact ⟨_, _, rfl⟩
theorem RowC.keep {H G : Heap} {n m : Nat} {sv : Value} {cs : List C} (h : RowC H n sv cs) (hm : n ≤ m) (hG : ∀ x b, x < n → H x = some b → G x = some b) : RowC G m sv cs := by
  rcases h with h | ⟨b, hb, h1, h2⟩
  · exact .inl h
  · exact .inr ⟨b, by omega, h1, hG b _ hb h2⟩
/-- Numbers, three by three. -/
def trip : List Int → List C
  | a :: b :: c :: r => (a, b, c) :: trip r
  | _ => []
theorem flat_trip : ∀ (m : Nat) (zs : List Int), zs.length = m * 3 → ints zs = flat (trip zs) ∧ (trip zs).length = m
  | 0, [], _ => ⟨rfl, rfl⟩
  | 0, _ :: _, h => by simp at h
  | m + 1, [], h => by simp at h
  | m + 1, [_], h => by simp at h; omega
  | m + 1, [_, _], h => by simp at h; omega
  | m + 1, a :: b :: c :: r, h => by
    obtain ⟨h1, h2⟩ := flat_trip m r (by simp at h; omega)
    exact ⟨by simp only [trip, flat, ← h1]; rfl, by simp [trip, h2]⟩
theorem RowV.cells {H : Heap} {n : Nat} {sv : Value} {zs : List Int} (h : RowV H n 3 sv zs) : RowC H n sv (trip zs) ∧ (trip zs).length ≤ 9223372036854775807 := by
  rcases h with ⟨rfl, rfl⟩ | ⟨b, len, h1, rfl, h3, h4, h5⟩
  · exact ⟨.inl ⟨rfl, rfl⟩, by simp [trip]⟩
  · obtain ⟨e1, e2⟩ := flat_trip len zs h4
    exact ⟨.inr ⟨b, h1, by rw [e2], by rw [← e1]; exact h5⟩, by omega⟩

/-! ### Columns -/
theorem mul_bd {a b : Int} (ha : 0 ≤ a ∧ a ≤ 3) (hb : 1 ≤ b ∧ b ≤ 4) : 0 ≤ a * b ∧ a * b ≤ 12 := by
  obtain rfl | rfl | rfl | rfl : b = 1 ∨ b = 2 ∨ b = 3 ∨ b = 4 := by omega
  all_goals omega
theorem mulXY {a b : Int} (ha : 1 ≤ a ∧ a ≤ 4) (hb : 1 ≤ b ∧ b ≤ 4) : 1 ≤ a * b ∧ a * b ≤ 16 := by
  obtain rfl | rfl | rfl | rfl : b = 1 ∨ b = 2 ∨ b = 3 ∨ b = 4 := by omega
  all_goals omega
theorem ix2 {a b X Y : Int} (ha : 0 ≤ a ∧ a < X) (hb : 0 ≤ b ∧ b < Y) (hY : 1 ≤ Y ∧ Y ≤ 4) : 0 ≤ a * Y + b ∧ a * Y + b < X * Y := by
  obtain rfl | rfl | rfl | rfl : Y = 1 ∨ Y = 2 ∨ Y = 3 ∨ Y = 4 := by omega
  all_goals omega
def oth1 (d : Int) : Int := if d = 0 then 1 else 0
def oth2 (d : Int) : Int := if d = 0 then 2 else if d = 1 then 2 else 1
def topIx (Y : Int) (c : C) : Nat := (c.1 * Y + c.2.1).toNat
def topStep (Y : Int) (o : List Int) (c : C) : List Int := o.set (topIx Y c) (max (at1 o (topIx Y c)) (c.2.2 + 1))
def topsN (X Y : Int) (cs : List C) (i : Nat) : List Int := (cs.take i).foldl (topStep Y) (List.replicate (X * Y).toNat 0)
theorem take_succ3 {cs : List C} {i : Nat} (h : i < cs.length) : cs.take (i + 1) = cs.take i ++ [at3 cs i] := by
  rw [List.take_add_one, show cs[i]? = some (at3 cs i) by simp [at3, List.getD, h]]; rfl
theorem take_succ1 {cs : List Int} {i : Nat} (h : i < cs.length) : cs.take (i + 1) = cs.take i ++ [at1 cs i] := by
  rw [List.take_add_one, show cs[i]? = some (at1 cs i) by simp [at1, List.getD, h]]; rfl
theorem topsN_zero (X Y : Int) (cs : List C) : topsN X Y cs 0 = List.replicate (X * Y).toNat 0 := by simp [topsN]
theorem topsN_succ {X Y : Int} {cs : List C} {i : Nat} (h : i < cs.length) : topStep Y (topsN X Y cs i) (at3 cs i) = topsN X Y cs (i + 1) := by
  unfold topsN
  rw [take_succ3 h, List.foldl_append]; rfl
theorem topsN_length (X Y : Int) (cs : List C) (i : Nat) : (topsN X Y cs i).length = (X * Y).toNat := by
  unfold topsN
  suffices h : ∀ (l : List C) (o : List Int), (l.foldl (topStep Y) o).length = o.length by rw [h]; simp
  intro l
  induction l with
  | nil => intro o; rfl
  | cons c l ih => intro o; rw [List.foldl_cons, ih]; simp [topStep]
theorem ix_bd {X Y Z : Int} {c : C} (hX : (1 ≤ X ∧ X ≤ 4) ∧ (1 ≤ Y ∧ Y ≤ 4) ∧ (1 ≤ Z ∧ Z ≤ 4)) (hc : (0 ≤ c.1 ∧ c.1 < X) ∧ (0 ≤ c.2.1 ∧ c.2.1 < Y) ∧ (0 ≤ c.2.2 ∧ c.2.2 < Z)) :
    c.1 * Y + c.2.1 = (topIx Y c : Int) ∧ topIx Y c < (X * Y).toNat := by
  have := ix2 hc.1 hc.2.1 hX.2.1
  unfold topIx
  omega
theorem at1_set {o : List Int} {k j : Nat} {z : Int} : at1 (o.set k z) j = if k = j ∧ k < o.length then z else at1 o j := by
  simp only [at1, List.getD, List.getElem?_set]
  by_cases h : k = j
  · subst h
    by_cases h2 : k < o.length
    · simp [h2]
    · simp [h2]
  · simp [h]
theorem at1_replicate (m j : Nat) : at1 (List.replicate m 0) j = 0 := by
  simp only [at1, List.getD, List.getElem?_replicate]; split <;> rfl
theorem topsN_bd {X Y Z : Int} {cs : List C} (hZ : 0 ≤ Z) (hin : ∀ j, j < cs.length → inBox X Y Z (at3 cs j) = true) : ∀ (i : Nat), i ≤ cs.length → ∀ j, 0 ≤ at1 (topsN X Y cs i) j ∧ at1 (topsN X Y cs i) j ≤ Z
  | 0, _, j => by rw [topsN_zero, at1_replicate]; omega
  | i + 1, h, j => by
    have h1 := topsN_bd hZ hin i (by omega) j
    have h2 := topsN_bd hZ hin i (by omega) (topIx Y (at3 cs i))
    have hc := inBox_bd (hin i (by omega))
    rw [← topsN_succ (by omega), topStep, at1_set]
    split
    · omega
    · exact h1

/-! ### How many of each -/
def countStep (o : List Int) (h : Int) : List Int := o.set h.toNat (at1 o h.toNat + 1)
def countsN (Z : Int) (hs : List Int) (i : Nat) : List Int := (hs.take i).foldl countStep (List.replicate (Z + 1).toNat 0)
theorem countsN_zero (Z : Int) (hs : List Int) : countsN Z hs 0 = List.replicate (Z + 1).toNat 0 := by simp [countsN]
theorem countsN_succ {Z : Int} {hs : List Int} {i : Nat} (h : i < hs.length) : countStep (countsN Z hs i) (at1 hs i) = countsN Z hs (i + 1) := by
  unfold countsN
  rw [take_succ1 h, List.foldl_append]; rfl
theorem countsN_length (Z : Int) (hs : List Int) (i : Nat) : (countsN Z hs i).length = (Z + 1).toNat := by
  unfold countsN
  suffices h : ∀ (l : List Int) (o : List Int), (l.foldl countStep o).length = o.length by rw [h]; simp
  intro l
  induction l with
  | nil => intro o; rfl
  | cons c l ih => intro o; rw [List.foldl_cons, ih]; simp [countStep]
theorem countsN_bd {Z : Int} {hs : List Int} : ∀ (i : Nat), i ≤ hs.length → ∀ j, 0 ≤ at1 (countsN Z hs i) j ∧ at1 (countsN Z hs i) j ≤ (i : Int)
  | 0, _, j => by rw [countsN_zero, at1_replicate]; omega
  | i + 1, h, j => by
    have h1 := countsN_bd (Z := Z) (hs := hs) i (by omega) j
    have h2 := countsN_bd (Z := Z) (hs := hs) i (by omega) (at1 hs i).toNat
    rw [← countsN_succ (by omega), countStep, at1_set]
    split <;> omega
end Go.Sep
/- Sets of cells as bits: rules for printed walks, and what the bits are. -/
namespace Go.Sep
open Go
set_option linter.unusedVariables false
set_option linter.unusedSimpArgs false

variable {P : Program} {N : Nat} {ts : Temps} {H : Heap} {n : Nat}

/-- A set's value. -/
abbrev U (s : BitVec 64) : Value := .int .u64 ((s.toNat : Nat) : Int)

theorem wrapU (z : Nat) : IntKind.u64.wrap (z : Int) = ((BitVec.ofNat 64 z).toNat : Int) := by
  simp only [IntKind.wrap, IntKind.signed, IntKind.bits, BitVec.toNat_ofNat]
  simp

theorem ofIntU (s : BitVec 64) : BitVec.ofInt 64 ((s.toNat : Nat) : Int) = s := by
  apply BitVec.eq_of_toNat_eq
  rw [BitVec.toNat_ofInt]
  have := s.isLt
  omega

section
variable {x y : Operand} {a b : BitVec 64} {t u : TypeId}
theorem e_andU (hx : ev ts x = some (U a)) (hy : ev ts y = some (U b)) : E P (.binOp .and t x y u) ts H n (U (a &&& b)) H n :=
  e_cInt hx hy (by simp) (by
    simp only [cInt, IntKind.bits, ofIntU]
    rw [wrapU, BitVec.ofNat_toNat, BitVec.setWidth_eq]; rfl)
theorem e_orU (hx : ev ts x = some (U a)) (hy : ev ts y = some (U b)) : E P (.binOp .or t x y u) ts H n (U (a ||| b)) H n :=
  e_cInt hx hy (by simp) (by
    simp only [cInt, IntKind.bits, ofIntU]
    rw [wrapU, BitVec.ofNat_toNat, BitVec.setWidth_eq]; rfl)
theorem e_xorU (hx : ev ts x = some (U a)) (hy : ev ts y = some (U b)) : E P (.binOp .xor t x y u) ts H n (U (a ^^^ b)) H n :=
  e_cInt hx hy (by simp) (by
    simp only [cInt, IntKind.bits, ofIntU]
    rw [wrapU, BitVec.ofNat_toNat, BitVec.setWidth_eq]; rfl)
theorem e_andNotU (hx : ev ts x = some (U a)) (hy : ev ts y = some (U b)) : E P (.binOp .andNot t x y u) ts H n (U (a &&& ~~~ b)) H n :=
  e_cInt hx hy (by simp) (by
    simp only [cInt, IntKind.bits, ofIntU]
    rw [wrapU, BitVec.ofNat_toNat, BitVec.setWidth_eq]; rfl)
theorem e_addU (hx : ev ts x = some (U a)) (hy : ev ts y = some (U b)) : E P (.binOp .add t x y u) ts H n (U (a + b)) H n :=
  e_cInt hx hy (by simp) (by
    simp only [cInt]
    rw [show ((a.toNat : Nat) : Int) + ((b.toNat : Nat) : Int) = ((a.toNat + b.toNat : Nat) : Int) by omega, wrapU]
    simp [BitVec.toNat_add])
theorem e_subU (hx : ev ts x = some (U a)) (hy : ev ts y = some (U b)) : E P (.binOp .sub t x y u) ts H n (U (a - b)) H n :=
  e_cInt hx hy (by simp) (by
    simp only [cInt, IntKind.wrap, IntKind.signed, IntKind.bits, BitVec.toNat_sub]
    have h1 := a.isLt
    have h2 := b.isLt
    simp
    omega)
theorem e_eqlU (hx : ev ts x = some (U a)) (hy : ev ts y = some (U b)) : E P (.binOp .eql t x y u) ts H n (.bool (decide (a = b))) H n :=
  e_cInt hx hy (by simp) (by
    simp only [cInt]
    congr 2
    have : a = b ↔ ((a.toNat : Nat) : Int) = ((b.toNat : Nat) : Int) := by rw [BitVec.toNat_eq]; omega
    by_cases h : a = b
    · rw [h]; simp
    · simp [h]; exact fun e => h (this.mpr (by omega)))
theorem e_neqU (hx : ev ts x = some (U a)) (hy : ev ts y = some (U b)) : E P (.binOp .neq t x y u) ts H n (.bool (!decide (a = b))) H n :=
  e_cInt hx hy (by simp) (by
    simp only [cInt]
    congr 2
    have : a = b ↔ ((a.toNat : Nat) : Int) = ((b.toNat : Nat) : Int) := by rw [BitVec.toNat_eq]; omega
    by_cases h : a = b
    · rw [h]; simp
    · simp [h]; exact fun e => h (this.mpr (by omega)))
theorem e_shlU {q : IntKind} {j : Int} (k : Nat) (hx : ev ts x = some (U a)) (hy : ev ts y = some (.int q j)) (hj : j = (k : Int)) : E P (.binOp .shl t x y u) ts H n (U (a <<< k)) H n := by
  subst hj
  refine ⟨?_, rfl⟩
  simp only [cop, ev2, hx, hy, cBin, cShift]
  rw [if_neg (by omega)]
  simp only [withH, Int.toNat_natCast, IntKind.bits]
  congr 3
  rw [show ((a.toNat : Nat) : Int) * 2 ^ min k 64 = ((a.toNat * 2 ^ min k 64 : Nat) : Int) by simp, wrapU]
  congr 1
  rw [BitVec.toNat_ofNat, BitVec.toNat_shiftLeft, Nat.shiftLeft_eq]
  rcases Nat.le_total k 64 with h | h
  · rw [Nat.min_eq_left h]
  · rw [Nat.min_eq_right h, Nat.mul_mod_left]
    rw [show k = 64 + (k - 64) by omega, Nat.pow_add, ← Nat.mul_assoc, Nat.mul_right_comm, Nat.mul_mod_left]
theorem e_shrU {q : IntKind} {j : Int} (k : Nat) (hx : ev ts x = some (U a)) (hy : ev ts y = some (.int q j)) (hj : j = (k : Int)) : E P (.binOp .shr t x y u) ts H n (U (a >>> k)) H n := by
  subst hj
  refine ⟨?_, rfl⟩
  simp only [cop, ev2, hx, hy, cBin, cShift]
  rw [if_neg (by omega)]
  simp only [withH, Int.toNat_natCast, IntKind.bits]
  congr 3
  rw [BitVec.toNat_ushiftRight, Nat.shiftRight_eq_div_pow]
  have e : (2 : Int) ^ min k 64 = ((2 ^ min k 64 : Nat) : Int) := by simp
  rw [e, Int.fdiv_eq_ediv_of_nonneg _ (Int.natCast_nonneg _), ← Int.natCast_ediv]
  congr 1
  have ha := a.isLt
  rcases Nat.le_total k 64 with h | h
  · rw [Nat.min_eq_left h]
  · rw [Nat.min_eq_right h, Nat.div_eq_of_lt ha, Nat.div_eq_of_lt (Nat.lt_of_lt_of_le ha (Nat.pow_le_pow_right (by omega) h))]
theorem e_negU (hx : ev ts x = some (U a)) : E P (.unOp .neg t x) ts H n (U (-a)) H n := by
  refine ⟨?_, rfl⟩
  simp only [cop, ev1, hx, cUn, withH]
  congr 3
  simp only [IntKind.wrap, IntKind.signed, IntKind.bits, BitVec.toNat_neg]
  have h1 := a.isLt
  simp
  omega
/-- uint64 to int, where nothing is lost. -/
theorem e_convUI {src dst : TypeId} {d1 : TD} {s1 b1 : Nat} {z1 : List Value} {g1 : Bool} {s2 b2 : Nat} {z2 : List Value} {g2 : Bool} (h1 : ti P src = some ⟨d1, s1, b1, z1, g1⟩) (h2 : ti P dst = some ⟨.int .i64, s2, b2, z2, g2⟩)
    (hx : ev ts x = some (U a)) (ha : a.toNat < 9223372036854775808) : E P (.convert src dst x) ts H n (.int .i64 (a.toNat : Nat)) H n := by
  refine ⟨?_, rfl⟩
  simp only [cop, ev1, hx, cConv, h1, h2, withH]
  rw [wrap_in ⟨by omega, by omega⟩]
theorem e_convUU {src dst : TypeId} {d1 : TD} {s1 b1 : Nat} {z1 : List Value} {g1 : Bool} {s2 b2 : Nat} {z2 : List Value} {g2 : Bool} (h1 : ti P src = some ⟨d1, s1, b1, z1, g1⟩) (h2 : ti P dst = some ⟨.int .u64, s2, b2, z2, g2⟩)
    (hx : ev ts x = some (U a)) : E P (.convert src dst x) ts H n (U a) H n := by
  refine ⟨?_, rfl⟩
  simp only [cop, ev1, hx, cConv, h1, h2, withH]
  rw [wrapU]; simp
end
/-- A constant as a set. -/
theorem ev_cU {k : Nat} (hk : k < 2 ^ 64) {c : Operand} (h : ev ts c = some (.int .u64 (k : Int))) : ev ts c = some (U (BitVec.ofNat 64 k)) := by
  rw [h]; simp only [U, BitVec.toNat_ofNat, Nat.mod_eq_of_lt hk]

end Go.Sep
/- append of any slice to an owned row; parts of slices. -/
namespace Go.Sep
open Go
set_option linter.unusedVariables false
set_option linter.unusedSimpArgs false

variable {P : Program} {N : Nat} {ops : Array Oper} {r : List Oper} {K : St → Prop} {ts : Temps} {H : Heap} {n : Nat}

/-- s[l:h] -/
def subV (b es l h : Nat) : Value := if h = l then .slice none 0 2 else .slice (some ⟨b, l * es, none⟩) (h - l) es

theorem take_subV {b es l h : Nat} {ro : Bool} {cs : List Value} (hH : H b = some (.cells ro cs)) (hl : l ≤ h) (hh : h * es ≤ cs.length) : cTake H es (subV b es l h) = some (h - l, (cs.drop (l * es)).take ((h - l) * es)) := by
  unfold subV
  split
  · rename_i e; subst e; simp [cTake]
  · rename_i e
    have h0 : h - l ≠ 0 := by omega
    unfold cTake
    split
    · rename_i heq
      simp only [Value.slice.injEq] at heq
      omega
    · rename_i b' m e' _ heq
      simp only [Value.slice.injEq, Option.some.injEq] at heq
      obtain ⟨rfl, rfl, rfl⟩ := heq
      simp only [hH]
      rw [if_pos (by rw [← Nat.add_mul]; exact Nat.le_trans (Nat.mul_le_mul_right _ (by omega)) hh)]
    · rename_i h1 h2
      exact absurd rfl (h2 _ _ _)

theorem take_row {b es m e' : Nat} {sp : Option Nat} {ro : Bool} {vs : List Value} (hH : H b = some (.cells ro vs)) (hl : vs.length = m * es) : cTake H es (.slice (some ⟨b, 0, sp⟩) m e') = some (m, vs) := by
  rcases Nat.eq_zero_or_pos m with h0 | h0
  · subst h0
    have : vs = [] := List.eq_nil_of_length_eq_zero (by omega)
    subst this; rfl
  · obtain ⟨k, rfl⟩ : ∃ k, m = k + 1 := ⟨m - 1, by omega⟩
    simp only [cTake, hH]
    rw [if_pos (by omega), List.drop_zero, List.take_of_length_le (by omega)]
theorem take_subHi {b k : Nat} {ro : Bool} {cs : List C} (hH : H b = some (.cells ro (flat cs))) (hk : k ≤ cs.length) : cTake H 3 (subV b 3 0 k) = some (k, flat (cs.take k)) := by
  rw [take_subV hH (by omega) (by rw [flat_length]; omega)]
  simp only [Nat.zero_mul, List.drop_zero, Nat.sub_zero, flat_take]
theorem take_subLo {b k m : Nat} {ro : Bool} {cs : List C} (hH : H b = some (.cells ro (flat cs))) (hm : m = cs.length) (hk : k ≤ m) : cTake H 3 (subV b 3 k m) = some (m - k, flat (cs.drop k)) := by
  rw [take_subV hH hk (by rw [flat_length, hm]; omega), flat_drop, flat_take, List.take_of_length_le (by simp; omega)]

theorem e_sliceHi {t e : TypeId} {x y : Operand} {b m : Nat} {sp : Option Nat} {q : IntKind} {j : Int} {sz by' : Nat} {z : List Value} {g : Bool} {d' : TD} {sz' by'' : Nat} {z' : List Value} {g' : Bool} (a : Nat)
    (ht : ti P t = some ⟨.slice e, sz, by', z, g⟩) (hE : ti P e = some ⟨d', sz', by'', z', g'⟩) (hx : ev ts x = some (.slice (some ⟨b, 0, sp⟩) m sz')) (hy : ev ts y = some (.int q j)) (hj : j = (a : Int)) (ha : a ≤ m) :
    E P (.slice t x none (some y) none) ts H n (subV b sz' 0 a) H n := by
  subst hj
  refine ⟨?_, rfl⟩
  simp only [cop, evO, hy, ev1, hx, cSlice, ht, hE, if_true]
  simp only [cBounds]
  rw [if_pos ⟨by omega, by omega⟩]
  by_cases h0 : a = 0 <;> simp [subV, withH, h0]
theorem e_sliceLo {t e : TypeId} {x y : Operand} {b m : Nat} {sp : Option Nat} {q : IntKind} {j : Int} {sz by' : Nat} {z : List Value} {g : Bool} {d' : TD} {sz' by'' : Nat} {z' : List Value} {g' : Bool} (a : Nat)
    (ht : ti P t = some ⟨.slice e, sz, by', z, g⟩) (hE : ti P e = some ⟨d', sz', by'', z', g'⟩) (hx : ev ts x = some (.slice (some ⟨b, 0, sp⟩) m sz')) (hy : ev ts y = some (.int q j)) (hj : j = (a : Int)) (ha : a ≤ m) :
    E P (.slice t x (some y) none none) ts H n (subV b sz' a m) H n := by
  subst hj
  refine ⟨?_, rfl⟩
  simp only [cop, evO, hy, ev1, hx, cSlice, ht, hE, if_true]
  simp only [cBounds]
  rw [if_pos ⟨by omega, by omega⟩]
  by_cases h0 : m = a <;> simp [subV, withH, ha, h0]

theorem app_any {t t1 e e1 : TypeId} {x y : Operand} {b m k es : Nat} {cs xs : List Value} {sv : Value} {sz by' : Nat} {z : List Value} {g : Bool} {sz1 by1 : Nat} {z1 : List Value} {g1 : Bool}
    {d' : TD} {by'' : Nat} {z' : List Value} {g' : Bool} (ht : ti P t = some ⟨.slice e, sz, by', z, g⟩) (ht1 : ti P t1 = some ⟨.slice e1, sz1, by1, z1, g1⟩) (hE : ti P e = some ⟨d', es, by'', z', g'⟩)
    (hx : ev ts x = some (.slice (some ⟨b, 0, none⟩) k es)) (hy : ev ts y = some sv) (hH : H b = some (.cells false cs)) (hT : cTake H es sv = some (m, xs))
    (hk : by'' ≤ 2 ^ 16 ∧ z'.length = es ∧ 0 < es) (hl : cs.length = k * es) (hl1 : xs.length = m * es) (hkm : k + m ≤ 2 ^ 24) (hb : b < n) :
    ∃ b' G n', cop P (.call { callee := .builtin .append, args := #[x, y], argTypes := #[t, t1] }) ts H n = some (.slice (some ⟨b', 0, none⟩) (k + m) es, G, n') ∧
      G b' = some (.cells false (cs ++ xs)) ∧ Keeps [b] n H G ∧ n ≤ n' ∧ b' < n' ∧ (b' = b ∨ n ≤ b') := by
  rcases Nat.eq_zero_or_pos m with h0 | h0
  · subst h0
    have hxs : xs = [] := List.eq_nil_of_length_eq_zero (by omega)
    subst hxs
    refine ⟨b, H, n, ?_, by simpa using hH, Keeps.refl _ _ _, Nat.le_refl _, hb, .inl rfl⟩
    simp only [cop, cBuiltin, hx, hy]
    simp only [cAppend, List.getElem?_toArray, List.getElem?_cons_zero, List.getElem?_cons_succ, ht, ht1, hE]
    rw [if_pos hk]
    simp only [hT, if_true, Nat.add_zero]
  · refine ⟨n, (H.del b).set n (.cells false (cs ++ xs)), n + 1, ?_, look_same, ((Keeps.refl _ _ _).del (.inr (by simp))).set (.inl (Nat.le_refl _)), Nat.le_succ _, Nat.lt_succ_self _, .inr (Nat.le_refl _)⟩
    simp only [cop, cBuiltin, hx, hy]
    simp only [cAppend, List.getElem?_toArray, List.getElem?_cons_zero, List.getElem?_cons_succ, ht, ht1, hE]
    rw [if_pos hk]
    simp only [hT]
    rw [if_neg (by omega)]
    simp only [hH]
    rw [if_pos ⟨trivial, trivial, hl, hkm⟩]

section
variable {t : Tmp} {ty : TypeId} {pos : String} {after : Array Edge} {gd : Option (Nat × Bool)} {c : Go.Call} {b k es : Nat} {cs : List Value}
/-- append, its outcome told by what is known of it. -/
theorem stA (hd : okDst N (some t) = true) (hw : wantC ops ⟨some t, .call c, ty, pos, after, gd⟩ ts = some true) (hc : calleeOf ts (.call c) = none)
    (ha : ∃ b' G n', cop P (.call c) ts H n = some (.slice (some ⟨b', 0, none⟩) k es, G, n') ∧ G b' = some (.cells false cs) ∧ Keeps [b] n H G ∧ n ≤ n' ∧ b' < n' ∧ (b' = b ∨ n ≤ b'))
    (hk : ∀ b' G n', G b' = some (.cells false cs) → Keeps [b] n H G → n ≤ n' → b' < n' → (b' = b ∨ n ≤ b') → wops P N ops r ⟨(t, .slice (some ⟨b', 0, none⟩) k es) :: ts, G, n'⟩ K) :
    wops P N ops (⟨some t, .call c, ty, pos, after, gd⟩ :: r) ⟨ts, H, n⟩ K := by
  obtain ⟨b', G, n', h1, h2, h3, h4, h5, h6⟩ := ha
  exact st hd hw ⟨h1, hc⟩ (hk b' G n' h2 h3 h4 h5 h6)
theorem dA {m j : Nat} {ms : List Nat} {acc : List (Nat × Foot)} (hd : okDst N (some t) = true) (hw : wantC ops ⟨some t, .call c, ty, pos, after, gd⟩ ts = some true) (hc : calleeOf ts (.call c) = none) (hkd : kindOf (.call c) ts = .eff 0 0 [])
    (ha : ∃ b' G n', cop P (.call c) ts (hide (hidden m acc) n H) n = some (.slice (some ⟨b', 0, none⟩) k es, G, n') ∧ G b' = some (.cells false cs) ∧ Keeps [b] n (hide (hidden m acc) n H) G ∧ n ≤ n' ∧ b' < n' ∧ (b' = b ∨ n ≤ b'))
    (hb : b < n) (hu : b ∉ hidden m acc) (hlt : ∀ x ∈ hidden m acc, x < n) (hacc : ∀ n', accOk m (.eff n n' [b]) acc)
    (hk : ∀ b' G n', G b' = some (.cells false cs) → Keeps [b] n H G → n ≤ n' → b' < n' → (b' = b ∨ n ≤ b') → wopsD P N ops r ms (j + 1) ((j, .eff n n' [b]) :: acc) ⟨(t, .slice (some ⟨b', 0, none⟩) k es) :: ts, G, n'⟩ K) :
    wopsD P N ops (⟨some t, .call c, ty, pos, after, gd⟩ :: r) (m :: ms) j acc ⟨ts, H, n⟩ K := by
  obtain ⟨b', G, n', h1, h2, h3, h4, h5, h6⟩ := ha
  simp only [wopsD, hd, hw, hkd, putT]
  refine ⟨trivial, [b], by simpa using ⟨hb, hu⟩, ?_⟩
  simp only [stepOp, hc, h1]
  have hG : ∀ y, y < n → y ∉ [b] → y ∉ hidden m acc → G y = H y := fun y hy hyb hyu => by
    rw [h3 y hy hyb]; unfold hide; rw [if_pos ⟨hy, hyu⟩]
  have hb'u : b' ∉ hidden m acc := fun hh => by
    rcases h6 with e | e
    · exact hu (e ▸ hh)
    · have := hlt _ hh; omega
  refine ⟨h4, hG, hacc n', hk b' _ n' ?_ ?_ h4 h5 h6⟩
  · unfold unhide; rw [if_pos ⟨h5, hb'u⟩]; exact h2
  · intro y hy hyb
    unfold unhide
    split
    · rename_i hh; exact hG y hy hyb hh.2
    · rfl
end

end Go.Sep
