/- The rules that a walk uses, in the form in which it uses them. -/
import Derived.Test.YtkfhblkjllbejaaDraw4
namespace Go.Sep
open Go
set_option linter.unusedVariables false
set_option linter.unusedSimpArgs false

variable {P : Program} {N : Nat} {s : St} {Q : Exit → St → Prop}

/-- Without the temporaries that serve one region alone. -/
def dropT (D : List Nat) : Temps → Temps
  | [] => []
  | (k, v) :: r => if k ∈ D then dropT D r else (k, v) :: dropT (k :: D) r

theorem get_dropT {t : Nat} {v : Value} : ∀ {ts : Temps} {D : List Nat}, get (dropT D ts) t = some v → t ∉ D ∧ get ts t = some v
  | [], D, h => by simp [dropT, get] at h
  | (k, u) :: r, D, h => by
    simp only [dropT] at h
    split at h
    · rename_i hk
      obtain ⟨h1, h2⟩ := get_dropT h
      refine ⟨h1, ?_⟩
      simp only [get]
      rw [if_neg (show ¬ k = t from fun e => h1 (by rw [← e]; exact hk))]
      exact h2
    · rename_i hk
      simp only [get] at h ⊢
      split at h
      · rename_i e; subst e; exact ⟨hk, by rw [if_pos rfl]; exact h⟩
      · rename_i e
        obtain ⟨h1, h2⟩ := get_dropT h
        simp at h1
        exact ⟨h1.2, by rw [if_neg e]; exact h2⟩

theorem Less.drop (D : List Nat) (ts : Temps) (H : Heap) (n : Nat) : Less ⟨dropT D ts, H, n⟩ ⟨ts, H, n⟩ :=
  { ts := fun t v ht => (get_dropT (D := D) ht).2, heap := Heap.le.refl _, n := Nat.le_refl _ }

theorem W.drop {c : Code} (D : List Nat) {ts : Temps} {H : Heap} {n : Nat} (h : W P N c ⟨dropT D ts, H, n⟩ Q) : W P N c ⟨ts, H, n⟩ Q :=
  W.less (Less.drop D ts H n) h

theorem W.seqR {id : Nat} {ops : Array Oper} {d : Code} (D : List Nat)
    (h : ∀ K : St → Prop, (∀ ts H n, W P N d ⟨dropT D ts, H, n⟩ Q → K ⟨ts, H, n⟩) → wops P N ops ops.toList s K) : W P N ((Code.region id ops false).seq d) s Q :=
  W.seq (W.region (h _ fun ts H n hh => W.drop D hh))

theorem W.regR {id : Nat} {ops : Array Oper} (D : List Nat)
    (h : ∀ K : St → Prop, (∀ ts H n, Q .normal ⟨dropT D ts, H, n⟩ → K ⟨ts, H, n⟩) → wops P N ops ops.toList s K) : W P N (Code.region id ops false) s Q :=
  W.post (W.region (h _ fun ts H n hh => ⟨_, Less.drop D ts H n, hh⟩))

theorem W.seqD {id : Nat} {ops : Array Oper} {d : Code} (D : List Nat) (ms : List Nat) (hP : P.follows .mixedOrders = true) (hs : staticOk ops ms = true)
    (h : ∀ K : St → Prop, (∀ ts H n, W P N d ⟨dropT D ts, H, n⟩ Q → K ⟨ts, H, n⟩) → wopsD P N ops ops.toList ms 0 [] s K) : W P N ((Code.region id ops true).seq d) s Q :=
  W.seq (W.regionD ms hP hs (h _ fun ts H n hh => W.drop D hh))

theorem W.regD {id : Nat} {ops : Array Oper} (D : List Nat) (ms : List Nat) (hP : P.follows .mixedOrders = true) (hs : staticOk ops ms = true)
    (h : ∀ K : St → Prop, (∀ ts H n, Q .normal ⟨dropT D ts, H, n⟩ → K ⟨ts, H, n⟩) → wopsD P N ops ops.toList ms 0 [] s K) : W P N (Code.region id ops true) s Q :=
  W.post (W.regionD ms hP hs (h _ fun ts H n hh => ⟨_, Less.drop D ts H n, hh⟩))

theorem W.condT {c : Operand} {x y : Code} (hc : ev s.ts c = some (.bool true)) (h : W P N x s Q) : W P N (.cond c x y) s Q := W.cond hc h
theorem W.condF {c : Operand} {x y : Code} (hc : ev s.ts c = some (.bool false)) (h : W P N y s Q) : W P N (.cond c x y) s Q := W.cond hc h

theorem W.skipT {K : St → Prop} (h : K s) : W P N .skip s (thenS K Q) := W.skip h


/-! ### The end of a body -/

/-- The heap as it was; what is handed back names nothing new. -/
theorem Ends.r0 {fn : Func} {H : Heap} {n : Nat} {v : Value} (hle : ∀ x b, x < n → H x = some b → s.H x = some b) (hH : ∀ x, n ≤ x → H x = none) (hv : ltT n v = true) (hres : resOf P s fn.results.toList = some v) :
    Ends P fn H n s v H n :=
  ⟨id, fun _ _ => rfl, by rw [hres]; congr 1; exact (renT_id v).symm, hv, fun x b hx => by
    have hlt : x < n := by
      rcases Nat.lt_or_ge x n with g | g
      · exact g
      · rw [hH x g] at hx; simp at hx
    exact .inl ⟨hlt, hx, hle x b hlt hx⟩, fun x y _ _ h => h⟩

/-- No names. -/
def plainA : Value → Bool
  | .pointer (some _) | .slice (some _) _ _ | .map (some _) | .func _ _ _ | .agg _ | .tuple _ => false
  | _ => true

theorem plainA_ren {ρ : Nat → Nat} {v : Value} (h : plainA v = true) : renC ρ v = v ∧ ∀ n, ltC n v = true := by
  cases v <;> simp [plainA] at h <;> first | exact ⟨rfl, fun _ => rfl⟩ | skip
  · rename_i a; cases a <;> simp at h; exact ⟨rfl, fun _ => rfl⟩
  · rename_i a _ _; cases a <;> simp at h; exact ⟨rfl, fun _ => rfl⟩
  · rename_i a; cases a <;> simp at h; exact ⟨rfl, fun _ => rfl⟩

theorem plain_ren {ρ : Nat → Nat} {cs : List Value} (h : cs.all plainA = true) (n : Nat) : cs = cs.map (renC ρ) ∧ cs.all (ltC n) = true := by
  rw [List.all_eq_true] at h
  refine ⟨?_, List.all_eq_true.mpr fun v hv => (plainA_ren (ρ := ρ) (h v hv)).2 n⟩
  calc cs = cs.map id := (List.map_id _).symm
    _ = cs.map (renC ρ) := List.map_congr_left fun v hv => (plainA_ren (h v hv)).1.symm

/-- One new block without names in it. -/
def one (n m : Nat) : Nat → Nat := fun x => if x = n then m else x

theorem Ends.r1 {fn : Func} {H : Heap} {n : Nat} {v : Value} (m : Nat) (cs : List Value) (hm : n ≤ m) (hle : ∀ x b, x < n → H x = some b → s.H x = some b) (hH : ∀ x, n ≤ x → H x = none)
    (hb : s.H m = some (.cells false cs)) (hp : cs.all plainA = true) (hv : ltT (n + 1) v = true) (hres : resOf P s fn.results.toList = some (renT (one n m) v)) :
    Ends P fn H n s v (H.set n (.cells false cs)) (n + 1) :=
  ⟨one n m, fun x hx => by simp [one]; omega, hres, hv, fun x b hx => by
    by_cases e : x = n
    · subst e
      rw [Heap.set_same] at hx
      obtain rfl := Option.some.inj hx
      refine .inr ⟨by omega, ?_⟩
      simp only [one, if_true, hb]
      exact ⟨rfl, plain_ren hp _⟩
    · rw [Heap.set_ne _ _ e] at hx
      have hlt : x < n := by
        rcases Nat.lt_or_ge x n with g | g
        · exact g
        · rw [hH x g] at hx; simp at hx
      exact .inl ⟨hlt, hx, hle x b hlt hx⟩, fun x y hx hy hxy => by
    simp only [one]
    by_cases e1 : x = n <;> by_cases e2 : y = n <;> simp [e1, e2] <;> omega⟩

/-- Heaps that go on telling what they told. -/
theorem set_old {H G : Heap} {n x : Nat} {b : Blk} (h : ∀ y c, y < n → H y = some c → G y = some c) (hx : n ≤ x) : ∀ y c, y < n → H y = some c → (G.set x b) y = some c := fun y c hy hc => by
  rw [Heap.set_ne _ _ (by omega)]; exact h y c hy hc
theorem del_old {H G : Heap} {n x : Nat} (h : ∀ y c, y < n → H y = some c → G y = some c) (hx : n ≤ x) : ∀ y c, y < n → H y = some c → (G.del x) y = some c := fun y c hy hc => by
  unfold Heap.del; rw [if_neg (by omega)]; exact h y c hy hc
theorem self_old {H : Heap} {n : Nat} : ∀ y c, y < n → H y = some c → H y = some c := fun _ _ _ h => h

theorem Fn.intro' {f : FuncId} {fn : Func} {c : Code} {args : List Value} {H H' : Heap} {n n' : Nat} {v : Value} (hf : P.funcs[f]? = some fn) (hb : fn.body = some c)
    (hname : (fn.name == "runtime.NumGoroutine") = false) {N : Nat} (hN : fn.ntmps = N) (ha : args.length ≤ N) (hn : n ≤ n')
    (h : (∀ x, n ≤ x → H x = none) → W P N c ⟨(List.range args.length).zip args, H, n⟩ fun e s => (e = .normal ∨ e = .ret) ∧ Ends P fn H n s v H' n') : Fn P f args H n v H' n' := by
  subst hN
  exact Fn.intro hf hb hname ha hn (W.fresh h)

/-- A function of which a block is known to be named before. -/
theorem Fn.below {f : FuncId} {args : List Value} {H H' : Heap} {n n' : Nat} {v : Value} (hn : ∀ fn, P.funcs[f]? = some fn → True) {b : Nat} {c : Blk} (hb : H b = some c)
    (h : b < n → Fn P f args H n v H' n') (h0 : (∃ fn, P.funcs[f]? = some fn ∧ fn.body.isSome = true ∧ (fn.name == "runtime.NumGoroutine") = false) ∧ n ≤ n') : Fn P f args H n v H' n' := by
  refine ⟨h0.1, h0.2, fun β cargs w hargs hs hf => ?_⟩
  have hlt : b < n := by
    rcases Nat.lt_or_ge b n with g | g
    · exact g
    · obtain ⟨l, hl, _⟩ := hs.ok b c hb
      rw [hf b g] at hl; simp at hl
  exact (h hlt).2.2 β cargs w hargs hs hf

end Go.Sep
