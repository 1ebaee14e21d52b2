/- Regions whose order the machine draws: that one run in the order of the text is enough. -/
import Derived.Test.YtkfhblkjllbejaaDraw
namespace Go.Sep
open Go
set_option linter.unusedVariables false
set_option linter.unusedSimpArgs false

variable {P : Program}

theorem hidden_mem {m : Nat} : ∀ {acc : List (Nat × Foot)} {y : Nat}, y ∉ hidden m acc → ∀ i x, (i, Foot.new x) ∈ acc → m.testBit i = true ∨ y ≠ x
  | [], y, _, i, x, h => by simp at h
  | (j, f) :: acc, y, hy, i, x, h => by
    cases f with
    | new z =>
      simp only [hidden] at hy
      split at hy
      · rename_i ht
        simp at h
        rcases h with ⟨rfl, rfl⟩ | h
        · exact .inl ht
        · exact hidden_mem hy i x h
      · simp at hy
        simp at h
        rcases h with ⟨rfl, rfl⟩ | h
        · exact .inr hy.1
        · exact hidden_mem hy.2 i x h
    | pure => simp at h; exact hidden_mem (by simpa [hidden] using hy) i x h
    | load z => simp at h; exact hidden_mem (by simpa [hidden] using hy) i x h
    | eff a b c => simp at h; exact hidden_mem (by simpa [hidden] using hy) i x h

theorem accOk_mem {m : Nat} {f : Foot} : ∀ {acc : List (Nat × Foot)}, accOk m f acc → ∀ i g, (i, g) ∈ acc → m.testBit i = true ∨ compat g f
  | [], _, i, g, h => by simp at h
  | (j, g') :: acc, ha, i, g, h => by
    simp at h
    rcases h with ⟨rfl, rfl⟩ | h
    · exact ha.1
    · exact accOk_mem ha.2 i g h

theorem stepOp_cop {o : Op} {s : St} {v : Value} {H' : Heap} {n' : Nat} {K : Value → Heap → Nat → Prop} (hc : calleeOf s.ts o = none) (h : cop P o s.ts s.H s.n = some (v, H', n')) (hk : K v H' n') :
    stepOp P o s K := by
  unfold stepOp
  rw [hc]
  simp only [h]
  exact hk

theorem stepOp_det {o : Op} {s : St} {K : Value → Heap → Nat → Prop} (h : stepOp P o s K) : ∃ v H' n', stepOp P o s (fun v' H'' n'' => v' = v ∧ H'' = H' ∧ n'' = n') ∧ K v H' n' := by
  unfold stepOp at h ⊢
  split at h
  · obtain ⟨v, H', n', hf, hk⟩ := h
    exact ⟨v, H', n', ⟨v, H', n', hf, rfl, rfl, rfl⟩, hk⟩
  · split at h
    · rename_i v H' n' hc
      exact ⟨v, H', n', ⟨rfl, rfl, rfl⟩, h⟩
    · exact h.elim

theorem restr_eq {need : Nat → Prop} {H : Heap} {y : Nat} (h : need y) : restr need H y = H y := by simp [restr, h]
theorem restr_none {need : Nat → Prop} {H : Heap} {y : Nat} (h : ¬ need y) : restr need H y = none := by simp [restr, h]

theorem wopsD_trace {N : Nat} {ops : Array Oper} {ms : List Nat} {K : St → Prop} : ∀ (r : List Oper) (p : Nat) (acc : List (Nat × Foot)) (s : St), ops.toList.drop p = r →
    wopsD P N ops r (ms.drop p) p acc s K → (∀ i f, (i, f) ∈ acc → FootWf s.n f) →
    ∃ (S : Nat → St) (need dom : Nat → Nat → Prop), S p = s ∧
      (∀ q o, p ≤ q → ops.toList[q]? = some o → Loc1 P N ops o (S q) (S (q + 1)) (need q) (dom q)) ∧
      (∀ a b, p ≤ a → a < b → b < ops.toList.length → (ms.getD b 0).testBit a = true ∨ Disj (need a) (dom a) (need b) (dom b)) ∧
      (∀ i f, (i, f) ∈ acc → ∀ b, p ≤ b → b < ops.toList.length → (ms.getD b 0).testBit i = true ∨ Disj (needF f) (domF f) (need b) (dom b)) ∧
      K (S (max p ops.toList.length))
  | [], p, acc, s, hr, h, hwf => by
    have hp : ops.toList.length ≤ p := by simpa using hr
    refine ⟨fun _ => s, fun _ _ => False, fun _ _ => False, rfl, fun q o hq ho => ?_, fun a b _ _ hb => by omega, fun i f _ b _ hb => by omega, ?_⟩
    · have := (List.getElem?_eq_some_iff.mp ho).1
      omega
    · cases hms : ms.drop p <;> (rw [hms] at h; exact h)
  | o :: r, p, acc, s, hr, h, hwf => by
    have ho : ops.toList[p]? = some o := by
      have := congrArg (·[0]?) hr
      simpa [List.getElem?_drop] using this
    have hpl : p < ops.toList.length := (List.getElem?_eq_some_iff.mp ho).1
    have hr' : ops.toList.drop (p + 1) = r := by rw [← List.drop_drop, hr]; rfl
    cases hms : ms.drop p with
    | nil => rw [hms] at h; exact h.elim
    | cons m ms' =>
      rw [hms] at h
      have hm : ms.getD p 0 = m := by
        have := congrArg (·[0]?) hms
        simp [List.getElem?_drop] at this
        rw [List.getD_eq_getElem?_getD, this]; rfl
      have hms' : ms' = ms.drop (p + 1) := by rw [← List.drop_drop, hms]; rfl
      simp only [wopsD] at h
      obtain ⟨hd, h⟩ := h
      -- one more state ahead of a trace
      have glue : ∀ (s' : St) (need0 dom0 : Nat → Prop) (acc' : List (Nat × Foot)), Loc1 P N ops o s s' need0 dom0 →
          wopsD P N ops r (ms.drop (p + 1)) (p + 1) acc' s' K → (∀ i f, (i, f) ∈ acc' → FootWf s'.n f) → (∀ i f, (i, f) ∈ acc → (i, f) ∈ acc') →
          (∀ b nb db, (∀ i f, (i, f) ∈ acc' → (ms.getD b 0).testBit i = true ∨ Disj (needF f) (domF f) nb db) → (ms.getD b 0).testBit p = true ∨ Disj need0 dom0 nb db) →
          (∀ i f, (i, f) ∈ acc → m.testBit i = true ∨ Disj (needF f) (domF f) need0 dom0) →
          ∃ (S : Nat → St) (need dom : Nat → Nat → Prop), S p = s ∧
            (∀ q o, p ≤ q → ops.toList[q]? = some o → Loc1 P N ops o (S q) (S (q + 1)) (need q) (dom q)) ∧
            (∀ a b, p ≤ a → a < b → b < ops.toList.length → (ms.getD b 0).testBit a = true ∨ Disj (need a) (dom a) (need b) (dom b)) ∧
            (∀ i f, (i, f) ∈ acc → ∀ b, p ≤ b → b < ops.toList.length → (ms.getD b 0).testBit i = true ∨ Disj (needF f) (domF f) (need b) (dom b)) ∧
            K (S (max p ops.toList.length)) := by
        intro s' need0 dom0 acc' hloc hw hwf' hsub hpair hpast
        obtain ⟨S, need, dom, hS, hL, hP, hA, hK⟩ := wopsD_trace r (p + 1) acc' s' hr' hw hwf'
        refine ⟨fun q => if q = p then s else S q, fun q => if q = p then need0 else need q, fun q => if q = p then dom0 else dom q, by simp, ?_, ?_, ?_, ?_⟩
        · intro q o' hq ho'
          by_cases e : q = p
          · subst e
            rw [ho] at ho'
            obtain rfl := Option.some.inj ho'
            simp [hS]
            exact hloc
          · have := hL q o' (by omega) ho'
            simp only [if_neg e, if_neg (show q + 1 ≠ p by omega)]
            exact this
        · intro a b ha hab hb
          by_cases e : a = p
          · subst e
            simp only [if_true, if_neg (show b ≠ a by omega)]
            exact hpair b (need b) (dom b) (fun i f hf => hA i f hf b (by omega) hb)
          · simp only [if_neg e, if_neg (show b ≠ p by omega)]
            exact hP a b (by omega) hab hb
        · intro i f hf b hb1 hb2
          by_cases e : b = p
          · subst e
            simp only [if_true, hm]
            exact hpast i f hf
          · simp only [if_neg e]
            exact hA i f (hsub i f hf) b (by omega) hb2
        · have e : max p ops.toList.length = max (p + 1) ops.toList.length := by omega
          rw [e]
          simp only [if_neg (show max (p + 1) ops.toList.length ≠ p by omega)]
          exact hK
      have dfalse : ∀ n d, Disj (fun _ => False) (fun _ => False) n d := fun n d y => by simp
      have dfalse' : ∀ n d, Disj n d (fun _ => False) (fun _ => False) := fun n d y => by simp
      split at h
      · -- left out
        rw [hms'] at h
        refine glue _ (fun _ => False) (fun _ => False) acc ?_ h hwf (fun i f hf => hf) (fun b nb db _ => .inr (dfalse _ _)) (fun i f _ => .inr (dfalse' _ _))
        rename_i hw
        exact ⟨hd, Nat.le_refl _, ⟨.tuple #[], _, rfl, .inr ⟨hw, rfl, rfl, rfl⟩, fun _ _ => rfl, fun _ hf => hf.elim, fun _ hf => hf.elim⟩, fun _ hf => hf.elim, fun _ hf => hf.elim⟩
      · rename_i hw
        split at h
        · -- pure
          rename_i hk
          split at h
          case h_2 => exact h.elim
          case h_1 v H' n' hc =>
            rw [hms'] at h
            obtain ⟨_, _, hG⟩ := cop_pure hk hc
            refine glue _ (fun _ => False) (fun _ => False) acc ?_ h hwf (fun i f hf => hf) (fun b nb db _ => .inr (dfalse _ _)) (fun i f _ => .inr (dfalse' _ _))
            refine ⟨hd, Nat.le_refl _, ⟨v, restr (fun _ => False) s.H, rfl, .inl ⟨hw, ?_⟩, fun _ _ => rfl, fun _ hf => hf.elim, fun _ hf => hf.elim⟩, fun _ hf => hf.elim, fun _ hf => hf.elim⟩
            exact stepOp_cop (callee_none (by rw [hk]; intros; simp)) (hG _) ⟨rfl, rfl, rfl⟩
        · -- a load
          rename_i x hk
          obtain ⟨⟨hx, hok⟩, h⟩ := h
          split at h
          case h_2 => exact h.elim
          case h_1 v H' n' hc =>
            rw [hms'] at h
            obtain ⟨_, _, hG⟩ := cop_load hk hc
            refine glue _ (fun y => y = x) (fun _ => False) _ ?_ h ?_ (fun i f hf => by simp [hf]) ?_ ?_
            · refine ⟨hd, Nat.le_refl _, ⟨v, restr (fun y => y = x) s.H, rfl, .inl ⟨hw, ?_⟩, fun _ _ => rfl, fun _ hf => hf.elim, fun y hy _ => restr_eq hy⟩, fun y hy => by rw [hy]; exact hx, fun _ hf => hf.elim⟩
              exact stepOp_cop (callee_none (by rw [hk]; intros; simp)) (hG _ (restr_eq rfl)) ⟨rfl, rfl, rfl⟩
            · intro i f hf
              simp at hf
              rcases hf with ⟨rfl, rfl⟩ | hf
              · exact hx
              · exact hwf i f hf
            · intro b nb db hall
              have := hall p (.load x) (by simp)
              exact this
            · intro i f hf
              rcases accOk_mem hok i f hf with h1 | h1
              · exact .inl h1
              · refine .inr fun y => ?_
                have hw1 := hwf i f hf
                cases f <;> simp only [compat, domF, needF] at h1 ⊢ <;> (try simp)
                · exact fun e1 e2 => h1 (by rw [← e2, e1])
                · intro e1 e2
                  subst e2
                  rcases e1 with e1 | e1
                  · omega
                  · exact h1.2 e1
        · -- a new block
          rename_i x hk
          split at h
          case h_2 => exact h.elim
          case h_1 v H' n' hc =>
            rw [hms'] at h
            obtain ⟨rfl, b, rfl, hG⟩ := cop_new hk hc
            refine glue _ (fun _ => False) (fun y => y = s.n) _ ?_ h ?_ (fun i f hf => by simp [hf]) ?_ ?_
            · refine ⟨hd, Nat.le_succ _, ⟨v, (restr (fun _ => False) s.H).set s.n b, rfl, .inl ⟨hw, ?_⟩, fun y hy => Heap.set_ne _ _ hy, fun y hy => by subst hy; exact (Heap.set_same _ _ _).trans (Heap.set_same _ _ _).symm, fun _ hf => hf.elim⟩, fun _ hf => hf.elim, fun y hy => by subst hy; exact ⟨Nat.lt_succ_self _, fun h => absurd h (Nat.lt_irrefl _)⟩⟩
              exact stepOp_cop (callee_none (by rw [hk]; intros; simp)) (hG _) ⟨rfl, rfl, rfl⟩
            · intro i f hf
              simp at hf
              rcases hf with ⟨rfl, rfl⟩ | hf
              · exact Nat.lt_succ_self _
              · exact (hwf i f hf).mono (Nat.le_succ _)
            · intro b' nb db hall
              exact hall p (.new s.n) (by simp)
            · intro i f hf
              refine .inr fun y => ?_
              have hw1 := hwf i f hf
              cases f <;> simp only [FootWf, domF, needF] at hw1 ⊢ <;> (try simp) <;> (try omega)
              · rename_i lo hi muts
                refine ⟨?_, ?_⟩
                · rintro (e | e) rfl
                  · omega
                  · have := hw1.2.2 _ e; omega
                · rintro e rfl; omega
        · -- anything else
          rename_i lo0 hi0 m0 hk
          obtain ⟨muts, hmuts, h⟩ := h
          obtain ⟨v, H1, n1, hstep, hn1, hkeep, hok, h⟩ := stepOp_det h
          rw [hms'] at h
          have hrestr : restr (fun y => y < s.n ∧ y ∉ hidden m acc) s.H = hide (hidden m acc) s.n s.H := by
            funext y
            unfold restr hide
            by_cases e : y < s.n ∧ y ∉ hidden m acc
            · rw [if_pos e, if_pos e]
            · rw [if_neg e, if_neg e]
          refine glue _ (fun y => y < s.n ∧ y ∉ hidden m acc) (domF (.eff s.n n1 muts)) _ ?_ h ?_ (fun i f hf => by simp [hf]) ?_ ?_
          · refine ⟨hd, hn1, ⟨v, H1, rfl, .inl ⟨hw, by rw [hrestr]; exact hstep⟩, ?_, ?_, ?_⟩, fun y hy => hy.1, ?_⟩
            · intro y hy
              simp only [domF] at hy
              simp only [unhide]
              split
              · rename_i e
                exact hkeep y (by
                  rcases Nat.lt_or_ge y s.n with g | g
                  · exact g
                  · exact absurd (.inl ⟨g, e.1⟩) hy) (fun g => hy (.inr g)) e.2
              · rfl
            · intro y hy
              simp only [unhide]
              rw [if_pos]
              rcases hy with ⟨g1, g2⟩ | g
              · refine ⟨g2, fun hh => ?_⟩
                have hlt : ∀ (acc : List (Nat × Foot)), (∀ i f, (i, f) ∈ acc → FootWf s.n f) → ∀ y ∈ hidden m acc, y < s.n := by
                  intro acc
                  induction acc with
                  | nil => intro _ y hy; simp [hidden] at hy
                  | cons q acc ih =>
                    intro hwf y hy
                    obtain ⟨i, f⟩ := q
                    have ih' := ih (fun i f hf => hwf i f (by simp [hf]))
                    cases f with
                    | new z =>
                      simp only [hidden] at hy
                      split at hy
                      · exact ih' y hy
                      · simp at hy
                        rcases hy with rfl | hy
                        · exact hwf i (.new y) (by simp)
                        · exact ih' y hy
                    | pure => exact ih' y (by simpa [hidden] using hy)
                    | load z => exact ih' y (by simpa [hidden] using hy)
                    | eff a b c => exact ih' y (by simpa [hidden] using hy)
                have := hlt acc hwf y hh
                omega
              · have := hmuts y g
                exact ⟨by omega, this.2⟩
            · intro y hy hnd
              exact hkeep y hy.1 (fun g => hnd (.inr g)) hy.2
            · intro y hy
              rcases hy with ⟨g1, g2⟩ | g
              · exact ⟨g2, fun h => by omega⟩
              · have := hmuts y g
                exact ⟨by simp only []; omega, fun _ => this⟩
          · intro i f hf
            simp at hf
            rcases hf with ⟨rfl, rfl⟩ | hf
            · exact ⟨hn1, Nat.le_refl _, fun y hy => (hmuts y hy).1⟩
            · exact (hwf i f hf).mono hn1
          · intro b nb db hall
            rcases hall p (.eff s.n n1 muts) (by simp) with g | g
            · exact .inl g
            · refine .inr fun y => ⟨(g y).1, fun hh => (g y).2.1 ⟨hh.1.1, hh.2⟩, (g y).2.2⟩
          · intro i f hf
            have hw1 := hwf i f hf
            cases f with
            | new x =>
              rcases accOk_mem hok i _ hf with g | g
              · exact .inl g
              · by_cases ht : m.testBit i = true
                · exact .inl ht
                · refine .inr fun y => ?_
                  simp only [domF, needF, compat, FootWf] at g hw1 ⊢
                  refine ⟨?_, by simp, ?_⟩
                  · rintro ⟨rfl, e | e⟩
                    · omega
                    · exact g e
                  · rintro ⟨rfl, e1, e2⟩
                    rcases hidden_mem e2 i y hf with e | e
                    · exact ht e
                    · exact e rfl
            | load x =>
              rcases accOk_mem hok i _ hf with g | g
              · exact .inl g
              · refine .inr fun y => ?_
                simp only [domF, needF, compat, FootWf] at g hw1 ⊢
                refine ⟨by simp, ?_, by simp⟩
                rintro ⟨rfl, e | e⟩
                · omega
                · exact g e
            | eff a b c =>
              rcases accOk_mem hok i _ hf with g | g
              · exact .inl g
              · exact g.elim
            | pure => exact .inr (fun y => by simp [domF, needF])
      · exact h.elim

end Go.Sep
