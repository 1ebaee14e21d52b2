/- Ends of bodies that make, or write to, several blocks; drawn calls that make three. -/
import Derived.Test.YtkfhblkjllbejaaRules
namespace Go.Sep
open Go
set_option linter.unusedVariables false
set_option linter.unusedSimpArgs false

variable {P : Program} {N : Nat} {s : St}
/-- Several new names. -/
def nm (n k : Nat) (f : Nat → Nat) : Nat → Nat := fun x => if x < n then x else if x < n + k then f (x - n) else x
theorem Ends.gen {fn : Func} {H H' : Heap} {n : Nat} {v v' : Value} (k : Nat) (f : Nat → Nat) (bs : Nat → List Value)
    (hH' : ∀ x b, H' x = some b → x < n ∧ H x = some b ∨ n ≤ x ∧ x < n + k ∧ b = .cells false (bs (x - n)))
    (hle : ∀ x b, x < n → H x = some b → s.H x = some b) (hf : ∀ j, j < k → n ≤ f j) (hinj : ∀ i j, i < k → j < k → i ≠ j → f i ≠ f j)
    (hb : ∀ j, j < k → s.H (f j) = some (.cells false ((bs j).map (renC (nm n k f))))) (hlt : ∀ j, j < k → (bs j).all (ltC (n + k)) = true)
    (hv : ltT (n + k) v = true) (hres : resOf P s fn.results.toList = some v') (he : v' = renT (nm n k f) v) : Ends P fn H n s v H' (n + k) := by
  subst he
  refine ⟨nm n k f, fun x hx => by simp [nm, hx], hres, hv, fun x b hx => ?_, fun x y hx hy hxy => ?_⟩
  · rcases hH' x b hx with ⟨h1, h2⟩ | ⟨h1, h2, h3⟩
    · exact .inl ⟨h1, h2, hle x b h1 h2⟩
    · refine .inr ⟨h2, ?_⟩
      have e : nm n k f x = f (x - n) := by simp only [nm]; rw [if_neg (by omega), if_pos h2]
      subst h3
      rw [e, hb _ (by omega)]
      exact ⟨rfl, rfl, hlt _ (by omega)⟩
  · simp only [nm]
    by_cases h1 : x < n <;> by_cases h2 : y < n
    · rw [if_pos h1, if_pos h2]; exact hxy
    · rw [if_pos h1, if_neg h2, if_pos hy]; have := hf (y - n) (by omega); omega
    · rw [if_neg h1, if_pos hx, if_pos h2]; have := hf (x - n) (by omega); omega
    · rw [if_neg h1, if_pos hx, if_neg h2, if_pos hy]; exact hinj _ _ (by omega) (by omega) (by omega)
def pick3 {α : Type} (a b c : α) : Nat → α
  | 0 => a
  | 1 => b
  | _ => c
theorem Ends.v3 {fn : Func} {H : Heap} {n : Nat} {v v' : Value} (m0 m1 m2 : Nat) {c0 c1 c2 d0 d1 d2 : List Value} (hm : n ≤ m0 ∧ n ≤ m1 ∧ n ≤ m2 ∧ m0 ≠ m1 ∧ m0 ≠ m2 ∧ m1 ≠ m2)
    (hle : ∀ x b, x < n → H x = some b → s.H x = some b) (hH : ∀ x, n ≤ x → H x = none) (hb0 : s.H m0 = some (.cells false d0)) (hb1 : s.H m1 = some (.cells false d1)) (hb2 : s.H m2 = some (.cells false d2))
    (hp : c0.all plainA = true ∧ c1.all plainA = true ∧ c2.all plainA = true) (hv : ltT (n + 3) v = true) (hres : resOf P s fn.results.toList = some v')
    (hd : d0 = c0 ∧ d1 = c1 ∧ d2 = c2) (he : v' = renT (nm n 3 (pick3 m0 m1 m2)) v) : Ends P fn H n s v (((H.set n (.cells false c0)).set (n + 1) (.cells false c1)).set (n + 1 + 1) (.cells false c2)) (n + 1 + 1 + 1) := by
  obtain ⟨rfl, rfl, rfl⟩ := hd
  refine Ends.gen 3 (pick3 m0 m1 m2) (pick3 d0 d1 d2) (fun x b hx => ?_) hle (fun j hj => ?_) (fun i j hi hj hij => ?_) (fun j hj => ?_) (fun j hj => ?_) hv hres he
  · by_cases e2 : x = n + 1 + 1
    · subst e2
      rw [Heap.set_same] at hx
      refine .inr ⟨by omega, by omega, ?_⟩
      rw [show n + 1 + 1 - n = 2 by omega]; exact (Option.some.inj hx).symm
    · rw [Heap.set_ne _ _ e2] at hx
      by_cases e1 : x = n + 1
      · subst e1
        rw [Heap.set_same] at hx
        refine .inr ⟨by omega, by omega, ?_⟩
        rw [show n + 1 - n = 1 by omega]; exact (Option.some.inj hx).symm
      · rw [Heap.set_ne _ _ e1] at hx
        by_cases e0 : x = n
        · subst e0
          rw [Heap.set_same] at hx
          refine .inr ⟨by omega, by omega, ?_⟩
          rw [Nat.sub_self]; exact (Option.some.inj hx).symm
        · rw [Heap.set_ne _ _ e0] at hx
          refine .inl ⟨?_, hx⟩
          rcases Nat.lt_or_ge x n with g | g
          · exact g
          · rw [hH x g] at hx; simp at hx
  · obtain rfl | rfl | rfl : j = 0 ∨ j = 1 ∨ j = 2 := by omega
    · exact hm.1
    · exact hm.2.1
    · exact hm.2.2.1
  · obtain ⟨_, _, _, h1, h2, h3⟩ := hm
    obtain rfl | rfl | rfl : i = 0 ∨ i = 1 ∨ i = 2 := by omega
    all_goals
      obtain rfl | rfl | rfl : j = 0 ∨ j = 1 ∨ j = 2 := by omega
      all_goals first | (exact absurd rfl hij) | (simp only [pick3]; omega)
  · obtain rfl | rfl | rfl : j = 0 ∨ j = 1 ∨ j = 2 := by omega
    · exact hb0.trans (congrArg some (congrArg (Blk.cells false) (plain_ren hp.1 0).1))
    · exact hb1.trans (congrArg some (congrArg (Blk.cells false) (plain_ren hp.2.1 0).1))
    · exact hb2.trans (congrArg some (congrArg (Blk.cells false) (plain_ren hp.2.2 0).1))
  · obtain rfl | rfl | rfl : j = 0 ∨ j = 1 ∨ j = 2 := by omega
    · exact (plain_ren (ρ := id) hp.1 _).2
    · exact (plain_ren (ρ := id) hp.2.1 _).2
    · exact (plain_ren (ρ := id) hp.2.2 _).2
/-- Three old blocks written anew. -/
theorem Ends.vU3 {fn : Func} {H : Heap} {n b0 b1 b2 : Nat} {v v' : Value} {c0 c1 c2 d0 d1 d2 : List Value} (hb : b0 < n ∧ b1 < n ∧ b2 < n ∧ b0 ≠ b1 ∧ b0 ≠ b2 ∧ b1 ≠ b2) (hle : OldBut [b0, b1, b2] n H s.H) (hH : ∀ x, n ≤ x → H x = none)
    (h0 : s.H b0 = some (.cells false d0)) (h1 : s.H b1 = some (.cells false d1)) (h2 : s.H b2 = some (.cells false d2)) (hp : c0.all plainA = true ∧ c1.all plainA = true ∧ c2.all plainA = true)
    (hv : ltT n v = true) (hres : resOf P s fn.results.toList = some v') (hd : d0 = c0 ∧ d1 = c1 ∧ d2 = c2) (he : v' = v) : Ends P fn H n s v (((H.set b0 (.cells false c0)).set b1 (.cells false c1)).set b2 (.cells false c2)) n := by
  obtain ⟨rfl, rfl, rfl⟩ := hd
  subst he
  refine ⟨id, fun _ _ => rfl, by rw [hres]; congr 1; exact (renT_id _).symm, hv, fun x c hx => ?_, fun x y _ _ h => h⟩
  by_cases e2 : x = b2
  · subst e2
    rw [Heap.set_same] at hx
    obtain rfl := Option.some.inj hx
    refine .inr ⟨hb.2.2.1, ?_⟩
    simp only [id, h2]
    exact ⟨rfl, plain_ren hp.2.2 _⟩
  · rw [Heap.set_ne _ _ e2] at hx
    by_cases e1 : x = b1
    · subst e1
      rw [Heap.set_same] at hx
      obtain rfl := Option.some.inj hx
      refine .inr ⟨hb.2.1, ?_⟩
      simp only [id, h1]
      exact ⟨rfl, plain_ren hp.2.1 _⟩
    · rw [Heap.set_ne _ _ e1] at hx
      by_cases e0 : x = b0
      · subst e0
        rw [Heap.set_same] at hx
        obtain rfl := Option.some.inj hx
        refine .inr ⟨hb.1, ?_⟩
        simp only [id, h0]
        exact ⟨rfl, plain_ren hp.1 _⟩
      · rw [Heap.set_ne _ _ e0] at hx
        have hlt : x < n := by
          rcases Nat.lt_or_ge x n with g | g
          · exact g
          · rw [hH x g] at hx; simp at hx
        exact .inl ⟨hlt, hx, hle x c hlt (by simp [e0, e1, e2]) hx⟩
section drawn3
variable {ops : Array Oper} {r : List Oper} {K : St → Prop} {ts : Temps} {H : Heap} {n : Nat} {t : Tmp} {op : Op} {ty : TypeId} {pos : String} {after : Array Edge} {gd : Option (Nat × Bool)} {v : Value} {m j : Nat} {ms : List Nat} {acc : List (Nat × Foot)}
/-- A drawn call that makes three blocks. -/
theorem dC3 {f : FuncId} {args : List Value} {c0 c1 c2 : Blk} (hd : okDst N (some t) = true) (hw : wantC ops ⟨some t, op, ty, pos, after, gd⟩ ts = some true) (hkd : kindOf op ts = .eff 0 0 []) (hc : calleeOf ts op = some (f, args))
    (hf : Fn P f args (hide (hidden m acc) n H) n v ((((hide (hidden m acc) n H).set n c0).set (n + 1) c1).set (n + 1 + 1) c2) (n + 1 + 1 + 1)) (ha : accOk m (.eff n (n + 1 + 1 + 1) []) acc) (hu : n ∉ hidden m acc ∧ n + 1 ∉ hidden m acc ∧ n + 1 + 1 ∉ hidden m acc)
    (hk : wopsD P N ops r ms (j + 1) ((j, .eff n (n + 1 + 1 + 1) []) :: acc) ⟨(t, v) :: ts, ((H.set n c0).set (n + 1) c1).set (n + 1 + 1) c2, n + 1 + 1 + 1⟩ K) : wopsD P N ops (⟨some t, op, ty, pos, after, gd⟩ :: r) (m :: ms) j acc ⟨ts, H, n⟩ K := by
  simp only [wopsD, hd, hw, hkd, putT]
  refine ⟨trivial, [], by simp, ?_⟩
  simp only [stepOp, hc]
  refine ⟨v, _, n + 1 + 1 + 1, hf, by omega, fun y hy _ hu => by rw [Heap.set_ne _ _ (by omega), Heap.set_ne _ _ (by omega), Heap.set_ne _ _ (by omega)]; unfold hide; rw [if_pos ⟨hy, hu⟩], ha, ?_⟩
  have : unhide (hidden m acc) (n + 1 + 1 + 1) H ((((hide (hidden m acc) n H).set n c0).set (n + 1) c1).set (n + 1 + 1) c2) = ((H.set n c0).set (n + 1) c1).set (n + 1 + 1) c2 := by
    funext y
    unfold unhide
    by_cases e2 : y = n + 1 + 1
    · subst e2; rw [if_pos ⟨Nat.lt_succ_self _, hu.2.2⟩, Heap.set_same, Heap.set_same]
    · rw [Heap.set_ne _ _ e2, Heap.set_ne _ _ e2]
      by_cases e1 : y = n + 1
      · subst e1; rw [if_pos ⟨by omega, hu.2.1⟩, Heap.set_same, Heap.set_same]
      · rw [Heap.set_ne _ _ e1, Heap.set_ne _ _ e1]
        by_cases e0 : y = n
        · subst e0; rw [if_pos ⟨by omega, hu.1⟩, Heap.set_same, Heap.set_same]
        · rw [Heap.set_ne _ _ e0, Heap.set_ne _ _ e0]
          split
          · rename_i hh
            unfold hide
            rw [if_pos ⟨by omega, hh.2⟩]
          · rfl
  rw [this]; exact hk
end drawn3
end Go.Sep
