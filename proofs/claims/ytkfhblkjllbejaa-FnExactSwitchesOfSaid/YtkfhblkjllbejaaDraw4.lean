/- Regions whose order the machine draws: one run in the order of the text is enough. -/
import Derived.Test.YtkfhblkjllbejaaDraw3
namespace Go.Sep
open Go
set_option linter.unusedVariables false
set_option linter.unusedSimpArgs false

variable {P : Program}

theorem mix_congr {κ α : Type} {S : Nat → κ → α} {dom : Nat → κ → Prop} {T T' : Nat → Prop} {m : Nat} {k : κ} (h : ∀ p, p < m → (T p ↔ T' p)) : mix S dom T m k = mix S dom T' m k := by
  induction m with
  | zero => rfl
  | succ m ih =>
    simp only [mix]
    rw [ih fun p hp => h p (by omega)]
    by_cases e : T m ∧ dom m k
    · rw [if_pos e, if_pos ⟨(h m (by omega)).mp e.1, e.2⟩]
    · rw [if_neg e, if_neg fun hh => e ⟨(h m (by omega)).mpr hh.1, hh.2⟩]

/-- The machine's state where the steps of `T` alone have been taken. -/
structure Inv (N : Nat) (m : Nat) (S : Nat → St) (dT dH : Nat → Nat → Prop) (T : Nat → Prop) (β0 : Names) (w0 : World) (β : Names) (a : Act) (w : World) : Prop where
  defers : a.defers = []
  size : a.tmps.size = N
  tmp : ∀ t v, mix (fun j t => get (S j).ts t) dT T m t = some v → ∃ u, a.tmps[t]? = some u ∧ VT β v u
  sat : Sat β (mix (fun j => (S j).H) dH T m) w
  names : ∀ x l, β x = some l → x < (S 0).n ∨ ∃ i, i < m ∧ T i ∧ (S i).n ≤ x ∧ x < (S (i + 1)).n
  ltTs : ∀ i, i < m → T i → ∀ t v, dT i t → get (S (i + 1)).ts t = some v → ltT (S (i + 1)).n v = true
  ltHs : ∀ i, i < m → T i → ∀ x b, dH i x → (S (i + 1)).H x = some b → BlkLt (S (i + 1)).n b
  grow : Grow (S 0).n β0 (S 0).H w0 β (mix (fun j => (S j).H) dH T m) w

theorem get_putT {ts : Temps} {d : Option Tmp} {v : Value} {t : Tmp} (h : d ≠ some t) : get (putT ts d v) t = get ts t := by
  cases d with
  | none => rfl
  | some x => simp only [putT, get]; rw [if_neg (fun e => h (by rw [e]))]

theorem put_get {a : Act} {d : Option Tmp} {u : Value} {t : Tmp} (h : d ≠ some t) : (a.put d u).tmps[t]? = a.tmps[t]? := by
  cases d with
  | none => rfl
  | some x =>
    have : x ≠ t := fun e => h (by rw [e])
    simp [Act.put, Array.getElem?_setIfInBounds_ne this]

theorem Inv.step {N m : Nat} {ops : Array Oper} {S : Nat → St} {need dom : Nat → Nat → Prop} {T : Nat → Prop} {β0 β : Names} {w0 w : World} {a : Act} (hm : ops.toList.length = m)
    (hL : ∀ q o, ops.toList[q]? = some o → Loc1 P N ops o (S q) (S (q + 1)) (need q) (dom q))
    (before : Nat → Nat → Prop)
    (hdisj : ∀ i j, i < j → j < m → before i j ∨ (Disj (need i) (dom i) (need j) (dom j) ∧ ∀ oi oj, ops.toList[i]? = some oi → ops.toList[j]? = some oj → oi.apart ops oj = true))
    (hlt0T : ∀ t v, get (S 0).ts t = some v → ltT (S 0).n v = true) (hlt0H : ∀ x b, (S 0).H x = some b → BlkLt (S 0).n b)
    (hInv : Inv N m S (fun j t => ∃ o, ops.toList[j]? = some o ∧ o.dst = some t) dom T β0 w0 β a w)
    {j : Nat} (hj : j < m) (hTj : ¬ T j) (hready : ∀ i, before i j → T i) (hclosed : ∀ i, before j i → ¬ T i) {Q : Exit → Act → World → Prop} {K' : Act → World → Prop}
    (hK : ∀ β' a' w', Inv N m S (fun j t => ∃ o, ops.toList[j]? = some o ∧ o.dst = some t) dom (fun i => T i ∨ i = j) β0 w0 β' a' w' → K' a' w') :
    wpOp P ops Q j K' a w := by
  obtain ⟨o, ho⟩ : ∃ o, ops.toList[j]? = some o := ⟨ops.toList[j]'(by omega), List.getElem?_eq_getElem (by omega)⟩
  have ho' : ops[j]? = some o := by simpa using ho
  obtain ⟨hd, hn, ⟨v, H1, hts, hstep, hkeep, hnew, hsame⟩, hneedlt, hdomlt⟩ := hL j o ho
  have hmono : ∀ i k, i ≤ k → k ≤ m → (S i).n ≤ (S k).n := by
    intro i k hik hk
    induction k with
    | zero => have : i = 0 := by omega
              subst this; exact Nat.le_refl _
    | succ k ih =>
      by_cases e : i = k + 1
      · subst e; exact Nat.le_refl _
      · exact Nat.le_trans (ih (by omega) (by omega)) (hL k _ (List.getElem?_eq_getElem (by omega))).n
  -- what the text's run says of a temporary, of a block
  have hST : ∀ p, p < m → ∀ t, ¬ (∃ o, ops.toList[p]? = some o ∧ o.dst = some t) → get (S (p + 1)).ts t = get (S p).ts t := by
    intro p hp t hnd
    obtain ⟨op, hop⟩ : ∃ o, ops.toList[p]? = some o := ⟨ops.toList[p]'(by omega), List.getElem?_eq_getElem (by omega)⟩
    obtain ⟨_, _, ⟨v', _, hts', _⟩, _, _⟩ := hL p op hop
    rw [hts']
    exact get_putT fun e => hnd ⟨op, hop, e⟩
  have hSH : ∀ p, p < m → ∀ x, ¬ dom p x → (S (p + 1)).H x = (S p).H x := by
    intro p hp x hnd
    obtain ⟨_, _, ⟨_, _, _, _, hk, _⟩, _, _⟩ := hL p _ (List.getElem?_eq_getElem (by omega))
    exact hk x hnd
  -- an operation before j in the text that touches what j looks at has been taken; one behind it has not
  have look1 : ∀ t, t ∈ o.looksAt ops → ∀ p, p < j → (∃ o, ops.toList[p]? = some o ∧ o.dst = some t) → T p := by
    rintro t ht p hp ⟨op, hop, hdst⟩
    rcases hdisj p j hp hj with h | ⟨_, h⟩
    · exact hready p h
    · exact absurd ht ((Oper.apart_spec (h op o hop ho)).1 t hdst)
  have look2 : ∀ t, t ∈ o.looksAt ops → ∀ p, j < p → p < m → (∃ o, ops.toList[p]? = some o ∧ o.dst = some t) → ¬ T p := by
    rintro t ht p hp hpm ⟨op, hop, hdst⟩
    rcases hdisj j p hp hpm with h | ⟨_, h⟩
    · exact hclosed p h
    · exact absurd ht ((Oper.apart_spec (h o op ho hop)).2.2 t hdst)
  have need1 : ∀ x, need j x → ∀ p, p < j → dom p x → T p := by
    intro x hx p hp hdx
    rcases hdisj p j hp hj with h | ⟨h, _⟩
    · exact hready p h
    · exact absurd ⟨hdx, hx⟩ (h x).2.2
  have need2 : ∀ x, need j x → ∀ p, j < p → p < m → dom p x → ¬ T p := by
    intro x hx p hp hpm hdx
    rcases hdisj j p hp hpm with h | ⟨h, _⟩
    · exact hclosed p h
    · exact absurd ⟨hx, hdx⟩ (h x).2.1
  have lookT : ∀ t, t ∈ o.looksAt ops → mix (fun j t => get (S j).ts t) (fun j t => ∃ o, ops.toList[j]? = some o ∧ o.dst = some t) T m t = get (S j).ts t := fun t ht =>
    mix_need (S := fun j t => get (S j).ts t) (fun p hp hnd => hST p hp t hnd) hj hTj (look1 t ht) (look2 t ht)
  have needH : ∀ x, need j x → mix (fun j => (S j).H) dom T m x = (S j).H x := fun x hx =>
    mix_need (S := fun j => (S j).H) (fun p hp hnd => hSH p hp x hnd) hj hTj (need1 x hx) (need2 x hx)
  have lookLt : ∀ t, t ∈ o.looksAt ops → ∀ v, get (S j).ts t = some v → ltT (S j).n v = true := by
    intro t ht
    have : ∀ p, p ≤ j → ∀ v, get (S p).ts t = some v → ltT (S p).n v = true := by
      intro p
      induction p with
      | zero => intro _ v hv; exact hlt0T t v hv
      | succ p ih =>
        intro hp v hv
        by_cases hdp : ∃ o, ops.toList[p]? = some o ∧ o.dst = some t
        · exact hInv.ltTs p (by omega) (look1 t ht p (by omega) hdp) t v hdp hv
        · rw [hST p (by omega) t hdp] at hv
          exact ltT_mono (hmono p (p + 1) (by omega) (by omega)) (ih (by omega) v hv)
    exact this j (Nat.le_refl _)
  have needLt : ∀ x, need j x → ∀ b, (S j).H x = some b → BlkLt (S j).n b := by
    intro x hx
    have : ∀ p, p ≤ j → ∀ b, (S p).H x = some b → BlkLt (S p).n b := by
      intro p
      induction p with
      | zero => intro _ b hb; exact hlt0H x b hb
      | succ p ih =>
        intro hp b hb
        by_cases hdp : dom p x
        · exact hInv.ltHs p (by omega) (need1 x hx p (by omega) hdp) x b hdp hb
        · rw [hSH p (by omega) x hdp] at hb
          exact (ih (by omega) b hb).mono (hmono p (p + 1) (by omega) (by omega))
    exact this j (Nat.le_refl _)
  -- the names that j may see
  let βr : Names := fun x => if x < (S j).n then β x else none
  have hβr : ∀ x, x < (S j).n → βr x = β x := fun x hx => by simp [βr, hx]
  have hβrn : ∀ x, (S j).n ≤ x → βr x = none := fun x hx => by simp [βr]; omega
  let Hr := restr (need j) (S j).H
  have hHr : ∀ x b, Hr x = some b → need j x ∧ (S j).H x = some b ∧ mix (fun j => (S j).H) dom T m x = some b := by
    intro x b hx
    by_cases hn : need j x
    · rw [show Hr x = (S j).H x from restr_eq hn] at hx
      exact ⟨hn, hx, by rw [needH x hn]; exact hx⟩
    · rw [show Hr x = none from restr_none hn] at hx; simp at hx
  have hrel : Rel N βr ⟨only (o.looksAt ops) (S j).ts, Hr, (S j).n⟩ a w := by
    refine ⟨hInv.defers, hInv.size, ?_, ⟨?_, ?_⟩, hβrn⟩
    · intro t v ht
      simp only [] at ht
      rw [get_only] at ht
      split at ht
      · rename_i hl
        obtain ⟨u, hu, huv⟩ := hInv.tmp t v (by rw [lookT t hl]; exact ht)
        exact ⟨u, hu, huv.cut hβr (lookLt t hl v ht)⟩
      · simp at ht
    · intro x b hx
      obtain ⟨h1, h2, h3⟩ := hHr x b hx
      obtain ⟨l, hl, hk⟩ := hInv.sat.ok x b h3
      exact ⟨l, by rw [hβr x (hneedlt x h1)]; exact hl, hk.cut hβr (needLt x h1 b h2)⟩
    · intro x y b1 b2 l m' hxy hx hy hrw hl hm'
      obtain ⟨h1, _, h3⟩ := hHr x b1 hx
      obtain ⟨g1, _, g3⟩ := hHr y b2 hy
      rw [hβr x (hneedlt x h1)] at hl
      rw [hβr y (hneedlt y g1)] at hm'
      exact hInv.sat.sep x y b1 b2 l m' hxy h3 g3 hrw hl hm'
  have hstep' : (wantC ops o (only (o.looksAt ops) (S j).ts) = some true ∧ stepOp P o.op ⟨only (o.looksAt ops) (S j).ts, Hr, (S j).n⟩ fun v' H' n' => v' = v ∧ H' = H1 ∧ n' = (S (j + 1)).n) ∨
      (wantC ops o (only (o.looksAt ops) (S j).ts) = some false ∧ (Value.tuple #[] = v ∧ Hr = H1 ∧ (S j).n = (S (j + 1)).n)) := by
    rw [wantC_only]
    rcases hstep with ⟨h1, h2⟩ | ⟨h1, h2, h3, h4⟩
    · exact .inl ⟨h1, stepOp_congr (fun x hx => ev_only hx) h2⟩
    · exact .inr ⟨h1, h2.symm, h3.symm, h4.symm⟩
  refine op_sound' (P := P) hrel ho' (K := fun v' H' n' => v' = v ∧ H' = H1 ∧ n' = (S (j + 1)).n) hstep' ?_
  intro v' H' n' β1 u w1 hk hnn hv hs hf hg
  obtain ⟨rfl, rfl, rfl⟩ := hk
  simp only [] at hnn hg
  -- the names behind the step
  let β2 : Names := fun x => if (S j).n ≤ x ∧ x < (S (j + 1)).n then β1 x else β x
  have hout : ∀ x l, β x = some l → ¬ ((S j).n ≤ x ∧ x < (S (j + 1)).n) := by
    rintro x l hx ⟨h1, h2⟩
    rcases hInv.names x l hx with h | ⟨i, hi, hTi, h3, h4⟩
    · have := hmono 0 j (by omega) (by omega); omega
    · rcases Nat.lt_trichotomy i j with e | e | e
      · have := hmono (i + 1) j (by omega) (by omega); omega
      · subst e; exact hTj hTi
      · have := hmono (j + 1) i (by omega) (by omega); omega
  have hle : β.le β2 := fun x l hx => by simp only [β2]; rw [if_neg (hout x l hx)]; exact hx
  have hle1 : β1.le β2 := by
    intro x l hx
    have hlt : x < (S (j + 1)).n := by
      rcases Nat.lt_or_ge x (S (j + 1)).n with g | g
      · exact g
      · rw [hf x g] at hx; simp at hx
    by_cases e : (S j).n ≤ x
    · simp only [β2]; rw [if_pos ⟨e, hlt⟩]; exact hx
    · rw [hg.names x (by omega), hβr x (by omega)] at hx
      exact hle x l hx
  have hβ1 : ∀ x, x < (S j).n → β1 x = β x := fun x hx => (hg.names x hx).trans (hβr x hx)
  have hvlt : ltT (S (j + 1)).n v' = true := hv.lt hf
  have hcond : ∀ p, j < p → p < m → T p → before j p → False := fun p _ _ hTp hb => hclosed p hb hTp
  have mixT : ∀ t, mix (fun j t => get (S j).ts t) (fun j t => ∃ o, ops.toList[j]? = some o ∧ o.dst = some t) (fun i => T i ∨ i = j) m t =
      if o.dst = some t then get (S (j + 1)).ts t else mix (fun j t => get (S j).ts t) (fun j t => ∃ o, ops.toList[j]? = some o ∧ o.dst = some t) T m t := by
    intro t
    rw [mix_add hj ?_ hTj]
    · by_cases e : o.dst = some t
      · rw [if_pos ⟨o, ho, e⟩, if_pos e]
      · rw [if_neg, if_neg e]
        rintro ⟨o2, ho2, hd2⟩
        rw [ho] at ho2
        obtain rfl := Option.some.inj ho2
        exact e hd2
    · rintro p hp hpm ⟨op, hop, hdp⟩ ⟨o2, ho2, hd2⟩ hTp
      rw [ho] at ho2
      obtain rfl := Option.some.inj ho2
      rcases hdisj j p hp hpm with h | ⟨_, h⟩
      · exact hclosed p h hTp
      · exact (Oper.apart_spec (h o op ho hop)).2.1 t hd2 hdp
  have mixH : ∀ x, (dom j x → mix (fun j => (S j).H) dom (fun i => T i ∨ i = j) m x = H' x) ∧ (¬ dom j x → mix (fun j => (S j).H) dom (fun i => T i ∨ i = j) m x = mix (fun j => (S j).H) dom T m x) := by
    intro x
    have := mix_add (S := fun j => (S j).H) (dom := dom) (T := T) (m := m) (k := x) hj (by
      intro p hp hpm hdp hdj hTp
      rcases hdisj j p hp hpm with h | ⟨h, _⟩
      · exact hclosed p h hTp
      · exact (h x).1 ⟨hdj, hdp⟩) hTj
    constructor
    · intro hd'; rw [this, if_pos hd', hnew x hd']
    · intro hd'; rw [this, if_neg hd']
  -- a block that j does not write is as it was
  have old : ∀ x b, ¬ dom j x → mix (fun j => (S j).H) dom T m x = some b → ∃ l, β x = some l ∧ BlkOk β2 w1 l b := by
    intro x b hnd hx
    by_cases hnx : need j x
    · have h1 : H' x = some b := by rw [hsame x hnx hnd, ← needH x hnx]; exact hx
      obtain ⟨l, hl, hk⟩ := hs.ok x b h1
      rw [hβ1 x (hneedlt x hnx)] at hl
      exact ⟨l, hl, hk.names hle1⟩
    · obtain ⟨l, hl, hk⟩ := hInv.sat.ok x b hx
      refine ⟨l, hl, (hk.names hle).world ?_⟩
      refine hg.keep l.blk hk.lt ?_
      rintro ⟨y, c, l2, hy, hrw, hl2, he⟩
      obtain ⟨g1, g2, g3⟩ := hHr y c hy
      rw [hβr y (hneedlt y g1)] at hl2
      have hyx : y ≠ x := fun e => hnx (e ▸ g1)
      exact hInv.sat.sep y x c b l2 l hyx g3 hx hrw hl2 hl he
  -- what a block of j's heap comes from
  have from1 : ∀ x b l, dom j x → H' x = some b → β2 x = some l → β1 x = some l := by
    intro x b l hdx hx hl
    obtain ⟨l1, hl1, _⟩ := hs.ok x b hx
    rw [hle1 x l1 hl1] at hl
    rw [hl1]; exact hl
  refine hK β2 _ w1 ⟨?_, ?_, ?_, ⟨?_, ?_⟩, ?_, ?_, ?_, ?_⟩
  · cases o.dst <;> exact hInv.defers
  · cases hdst : o.dst with
    | none => exact hInv.size
    | some d => simp [Act.put, hInv.size]
  · intro t x ht
    rw [mixT t] at ht
    split at ht
    · rename_i e
      rw [hts, e] at ht
      simp only [putT, get, if_true] at ht
      obtain rfl := Option.some.inj ht
      rw [e] at hd
      simp only [okDst, decide_eq_true_eq] at hd
      exact ⟨u, by simp [e, Act.put, hInv.size, hd], hv.mono hle1⟩
    · rename_i e
      obtain ⟨y, hy, hyv⟩ := hInv.tmp t x ht
      exact ⟨y, by rw [put_get e]; exact hy, hyv.mono hle⟩
  · intro x b hx
    by_cases hdx : dom j x
    · rw [(mixH x).1 hdx] at hx
      obtain ⟨l, hl, hk⟩ := hs.ok x b hx
      exact ⟨l, hle1 x l hl, hk.names hle1⟩
    · rw [(mixH x).2 hdx] at hx
      obtain ⟨l, hl, hk⟩ := old x b hdx hx
      exact ⟨l, hle x l hl, hk⟩
  · intro x y b1 b2 l1 l2 hxy hx hy hrw hl1 hl2
    -- a written block against one that is as it was
    have cross : ∀ x y b1 b2 l1 l2, x ≠ y → dom j x → ¬ dom j y → H' x = some b1 → mix (fun j => (S j).H) dom T m y = some b2 → (b1.rw = true ∨ b2.rw = true) → β2 x = some l1 → β2 y = some l2 → l1.blk ≠ l2.blk := by
      intro x y b1 b2 l1 l2 hxy hdx hdy hx hy hrw hl1 hl2
      have hl1' := from1 x b1 l1 hdx hx hl1
      obtain ⟨l2', hl2', hk2⟩ := hInv.sat.ok y b2 hy
      have : l2' = l2 := by rw [hle y l2' hl2'] at hl2; exact Option.some.inj hl2
      subst this
      by_cases hny : need j y
      · have h1 : H' y = some b2 := by rw [hsame y hny hdy, ← needH y hny]; exact hy
        have hl2'' : β1 y = some l2' := by rw [hβ1 y (hneedlt y hny)]; exact hl2'
        rcases hrw with g | g
        · exact hs.sep x y b1 b2 l1 l2' hxy hx h1 g hl1' hl2''
        · exact fun e => hs.sep y x b2 b1 l2' l1 (fun e => hxy e.symm) h1 hx g hl2'' hl1' e.symm
      · -- y is hidden from j
        have hblk : Own βr Hr l1.blk ∨ w.heap.size ≤ l1.blk ∨ (x < (S j).n ∧ b1.rw = false) := by
          by_cases e : b1.rw = true ∨ (S j).n ≤ x
          · rcases hg.own l1.blk ⟨x, b1, l1, hx, e, hl1', rfl⟩ with g | g
            · exact .inl g
            · exact .inr (.inl g)
          · refine .inr (.inr ⟨by
              rcases Nat.lt_or_ge x (S j).n with g | g
              · exact g
              · exact absurd (.inr g) e, ?_⟩)
            cases hb : b1.rw with
            | false => rfl
            | true => exact absurd (.inl hb) e
        rcases hblk with ⟨z, c, lz, hz, hrz, hlz, he⟩ | g | ⟨g1, g2⟩
        · obtain ⟨q1, q2, q3⟩ := hHr z c hz
          rw [hβr z (hneedlt z q1)] at hlz
          have hzy : z ≠ y := fun e => hny (e ▸ q1)
          rw [← he]
          exact hInv.sat.sep z y c b2 lz l2' hzy q3 hy hrz hlz hl2'
        · have := hk2.lt
          omega
        · -- both are read alone: then the other is owned
          have hrw2 : b2.rw = true := by
            rcases hrw with g | g
            · rw [g2] at g; simp at g
            · exact g
          have hnx := (hdomlt x hdx).2 g1
          have hd0 := hg.dom x g1 (by rw [hx]; simp)
          cases hHx : Hr x with
          | none => exact absurd hHx hd0
          | some c =>
            obtain ⟨q1, q2, q3⟩ := hHr x c hHx
            have hl1'' : β x = some l1 := by rw [← hβ1 x g1]; exact hl1'
            exact fun e => hInv.sat.sep y x b2 c l2' l1 (fun e => hxy e.symm) hy q3 hrw2 hl2' hl1'' e.symm
    by_cases hdx : dom j x
    · rw [(mixH x).1 hdx] at hx
      by_cases hdy : dom j y
      · rw [(mixH y).1 hdy] at hy
        exact hs.sep x y b1 b2 l1 l2 hxy hx hy hrw (from1 x b1 l1 hdx hx hl1) (from1 y b2 l2 hdy hy hl2)
      · rw [(mixH y).2 hdy] at hy
        exact cross x y b1 b2 l1 l2 hxy hdx hdy hx hy (.inl hrw) hl1 hl2
    · rw [(mixH x).2 hdx] at hx
      by_cases hdy : dom j y
      · rw [(mixH y).1 hdy] at hy
        exact fun e => cross y x b2 b1 l2 l1 (fun e => hxy e.symm) hdy hdx hy hx (.inr hrw) hl2 hl1 e.symm
      · rw [(mixH y).2 hdy] at hy
        obtain ⟨p1, hp1, _⟩ := hInv.sat.ok x b1 hx
        obtain ⟨p2, hp2, _⟩ := hInv.sat.ok y b2 hy
        have e1 : p1 = l1 := by rw [hle x p1 hp1] at hl1; exact Option.some.inj hl1
        have e2 : p2 = l2 := by rw [hle y p2 hp2] at hl2; exact Option.some.inj hl2
        subst e1; subst e2
        exact hInv.sat.sep x y b1 b2 p1 p2 hxy hx hy hrw hp1 hp2
  · intro x l hx
    by_cases e : (S j).n ≤ x ∧ x < (S (j + 1)).n
    · exact .inr ⟨j, hj, .inr rfl, e.1, e.2⟩
    · simp only [β2] at hx
      rw [if_neg e] at hx
      rcases hInv.names x l hx with h | ⟨i, hi, hTi, h3⟩
      · exact .inl h
      · exact .inr ⟨i, hi, .inl hTi, h3⟩
  · rintro i hi (hTi | rfl) t x hdt hx
    · exact hInv.ltTs i hi hTi t x hdt hx
    · obtain ⟨o2, ho2, hd2⟩ := hdt
      rw [ho] at ho2
      obtain rfl := Option.some.inj ho2
      rw [hts, hd2] at hx
      simp only [putT, get, if_true] at hx
      obtain rfl := Option.some.inj hx
      exact hvlt
  · rintro i hi (hTi | rfl) x b hdx hx
    · exact hInv.ltHs i hi hTi x b hdx hx
    · rw [hnew x hdx] at hx
      obtain ⟨l, hl, hk⟩ := hs.ok x b hx
      exact hk.blkLt hf
  · have hG := hInv.grow
    refine ⟨?_, hg.os.trans hG.os, hg.tape.trans hG.tape, hg.output.trans hG.output, Nat.le_trans hG.size hg.size, ?_, ?_, ?_⟩
    · intro x hx
      have := hmono 0 j (by omega) (by omega)
      simp only [β2]
      rw [if_neg (by omega)]
      exact hG.names x hx
    · intro k hk hno
      have hno2 : ¬ Own βr Hr k := by
        rintro ⟨x, c, l, hx, hrw, hl, he⟩
        obtain ⟨q1, q2, q3⟩ := hHr x c hx
        rw [hβr x (hneedlt x q1)] at hl
        rcases hG.own k ⟨x, c, l, q3, .inl hrw, hl, he⟩ with g | g
        · exact hno g
        · omega
      exact (hg.keep k (Nat.lt_of_lt_of_le hk hG.size) hno2).trans (hG.keep k hk hno)
    · rintro k ⟨x, b, l, hx, hrw, hl, he⟩
      by_cases hdx : dom j x
      · rw [(mixH x).1 hdx] at hx
        have hl1 := from1 x b l hdx hx hl
        by_cases e : b.rw = true ∨ (S j).n ≤ x
        · rcases hg.own k ⟨x, b, l, hx, e, hl1, he⟩ with ⟨z, c, lz, hz, hrz, hlz, hez⟩ | g
          · obtain ⟨q1, q2, q3⟩ := hHr z c hz
            rw [hβr z (hneedlt z q1)] at hlz
            exact hG.own k ⟨z, c, lz, q3, .inl hrz, hlz, hez⟩
          · exact .inr (Nat.le_trans hG.size g)
        · have hxn : x < (S j).n := by
            rcases Nat.lt_or_ge x (S j).n with g | g
            · exact g
            · exact absurd (.inr g) e
          have h0 : (S 0).n ≤ x := by
            rcases hrw with g | g
            · exact absurd (.inl g) e
            · exact g
          have hd0 := hg.dom x hxn (by rw [hx]; simp)
          cases hHx : Hr x with
          | none => exact absurd hHx hd0
          | some c =>
            obtain ⟨q1, q2, q3⟩ := hHr x c hHx
            rw [hβ1 x hxn] at hl1
            exact hG.own k ⟨x, c, l, q3, .inr h0, hl1, he⟩
      · rw [(mixH x).2 hdx] at hx
        obtain ⟨p1, hp1, _⟩ := hInv.sat.ok x b hx
        have e1 : p1 = l := by rw [hle x p1 hp1] at hl; exact Option.some.inj hl
        subst e1
        exact hG.own k ⟨x, b, p1, hx, hrw, hp1, he⟩
    · intro x hx h2
      by_cases hdx : dom j x
      · rw [(mixH x).1 hdx] at h2
        have hxn : x < (S j).n := by have := hmono 0 j (by omega) (by omega); omega
        have hd0 := hg.dom x hxn h2
        cases hHx : Hr x with
        | none => exact absurd hHx hd0
        | some c =>
          obtain ⟨q1, q2, q3⟩ := hHr x c hHx
          exact hG.dom x hx (by rw [q3]; simp)
      · rw [(mixH x).2 hdx] at h2
        exact hG.dom x hx h2

theorem Inv.congr {N m : Nat} {S : Nat → St} {dT dH : Nat → Nat → Prop} {T T' : Nat → Prop} {β0 β : Names} {w0 w : World} {a : Act} (h : ∀ p, p < m → (T p ↔ T' p))
    (hi : Inv N m S dT dH T β0 w0 β a w) : Inv N m S dT dH T' β0 w0 β a w := by
  have e1 : mix (fun j t => get (S j).ts t) dT T' m = mix (fun j t => get (S j).ts t) dT T m := funext fun t => (mix_congr h).symm
  have e2 : mix (fun j => (S j).H) dH T' m = mix (fun j => (S j).H) dH T m := funext fun t => (mix_congr h).symm
  refine ⟨hi.defers, hi.size, ?_, ?_, ?_, fun i him hT => hi.ltTs i him ((h i him).mpr hT), fun i him hT => hi.ltHs i him ((h i him).mpr hT), ?_⟩
  · rw [e1]; exact hi.tmp
  · rw [e2]; exact hi.sat
  · intro x l hx
    rcases hi.names x l hx with g | ⟨i, g1, g2, g3⟩
    · exact .inl g
    · exact .inr ⟨i, g1, (h i g1).mp g2, g3⟩
  · rw [e2]; exact hi.grow

theorem any_sound {N m : Nat} {ops : Array Oper} {S : Nat → St} {need dom : Nat → Nat → Prop} {ms : List Nat} {β0 : Names} {w0 : World} {Q : Exit → St → Prop} (hm : ops.toList.length = m)
    (hL : ∀ q o, ops.toList[q]? = some o → Loc1 P N ops o (S q) (S (q + 1)) (need q) (dom q))
    (hstatic : staticOk ops ms = true)
    (hpair : ∀ a b, a < b → b < m → (ms.getD b 0).testBit a = true ∨ Disj (need a) (dom a) (need b) (dom b))
    (hlt0T : ∀ t v, get (S 0).ts t = some v → ltT (S 0).n v = true) (hlt0H : ∀ x b, (S 0).H x = some b → BlkLt (S 0).n b) (hQ : Q .normal (S m)) :
    ∀ (fuel : Nat) (listed : Array Bool) (a : Act) (w : World) (β : Names), listed.size = m → listed.toList.count false ≤ fuel →
      (∀ (i : Nat) (o : Oper), ops.toList[i]? = some o → listed[i]? = some true → ∀ d : Nat, d ∈ depsOf o → listed[d]? = some true) →
      Inv N m S (fun j t => ∃ o, ops.toList[j]? = some o ∧ o.dst = some t) dom (fun i => listed[i]? = some true) β0 w0 β a w →
      wpAny P .any ops (Post N β0 (S 0) w0 Q) fuel listed a w := by
  have hs1 : masksFrom ops.toList [] = ms := by
    unfold staticOk at hstatic
    simp only [Bool.and_eq_true, beq_iff_eq] at hstatic
    exact hstatic.1
  have hs2 : staticFrom ops ops.toList ms [] = true := by
    unfold staticOk at hstatic
    simp only [Bool.and_eq_true] at hstatic
    exact hstatic.2
  have hst : ∀ j o, ops.toList[j]? = some o → (∀ d ∈ depsOf o, d < j) ∧ ∀ i q, i < j → ops.toList[i]? = some q → (ms.getD j 0).testBit i = true ∨ q.apart ops o = true := fun j o ho =>
    staticFrom_get ops.toList ms ops.toList 0 (by simp) (by simpa using hs2) j o (Nat.zero_le _) ho
  have hmask : ∀ (T : Nat → Prop), (∀ i o, ops.toList[i]? = some o → T i → ∀ d ∈ depsOf o, T d) → ∀ j o, ops.toList[j]? = some o → (∀ d ∈ depsOf o, T d) → ∀ i, (ms.getD j 0).testBit i = true → T i := by
    intro T hT j o ho hd i hi
    rw [← hs1] at hi
    exact masks_closed ops.toList hT ops.toList 0 [] (by simp) rfl (fun j o hj => by omega) j o ho hd i hi
  have hmono : ∀ i k, i ≤ k → k ≤ m → (S i).n ≤ (S k).n := by
    intro i k hik hk
    induction k with
    | zero => have : i = 0 := by omega
              subst this; exact Nat.le_refl _
    | succ k ih =>
      by_cases e : i = k + 1
      · subst e; exact Nat.le_refl _
      · exact Nat.le_trans (ih (by omega) (by omega)) (hL k _ (List.getElem?_eq_getElem (by omega))).n
  -- all taken
  have fin : ∀ (listed : Array Bool) (a : Act) (w : World) (β : Names), (∀ i, i < m → listed[i]? = some true) →
      Inv N m S (fun j t => ∃ o, ops.toList[j]? = some o ∧ o.dst = some t) dom (fun i => listed[i]? = some true) β0 w0 β a w → Post N β0 (S 0) w0 Q .normal a w := by
    intro listed a w β hall hi
    have hST : ∀ p, p < m → ∀ t, ¬ (∃ o, ops.toList[p]? = some o ∧ o.dst = some t) → get (S (p + 1)).ts t = get (S p).ts t := by
      intro p hp t hnd
      obtain ⟨op, hop⟩ : ∃ o, ops.toList[p]? = some o := ⟨ops.toList[p]'(by omega), List.getElem?_eq_getElem (by omega)⟩
      obtain ⟨_, _, ⟨v', _, hts', _⟩, _, _⟩ := hL p op hop
      rw [hts']
      exact get_putT fun e => hnd ⟨op, hop, e⟩
    have hSH : ∀ p, p < m → ∀ x, ¬ dom p x → (S (p + 1)).H x = (S p).H x := by
      intro p hp x hnd
      obtain ⟨_, _, ⟨_, _, _, _, hk, _⟩, _, _⟩ := hL p _ (List.getElem?_eq_getElem (by omega))
      exact hk x hnd
    have e1 : ∀ t, mix (fun j t => get (S j).ts t) (fun j t => ∃ o, ops.toList[j]? = some o ∧ o.dst = some t) (fun i => listed[i]? = some true) m t = get (S m).ts t := fun t =>
      mix_all (S := fun j t => get (S j).ts t) (fun p hp hnd => hST p hp t hnd) fun p hp => hall p hp
    have e2 : mix (fun j => (S j).H) dom (fun i => listed[i]? = some true) m = (S m).H := funext fun x =>
      mix_all (S := fun j => (S j).H) (fun p hp hnd => hSH p hp x hnd) fun p hp => hall p hp
    have hs := hi.sat
    have hg := hi.grow
    rw [e2] at hs hg
    refine ⟨S m, β, hQ, hmono 0 m (by omega) (Nat.le_refl _), ⟨hi.defers, hi.size, fun t v ht => hi.tmp t v (by rw [e1]; exact ht), hs, ?_⟩, hg⟩
    intro x hx
    cases hb : β x with
    | none => rfl
    | some l =>
      rcases hi.names x l hb with g | ⟨i, g1, _, g3, g4⟩
      · have := hmono 0 m (by omega) (Nat.le_refl _); omega
      · have := hmono (i + 1) m (by omega) (Nat.le_refl _); omega
  -- nobody can be taken: all are
  have stuck : ∀ (listed : Array Bool), listed.size = m → Region.ready .any ops listed = [] → ∀ i, i < m → listed[i]? = some true := by
    intro listed hsz hr i
    induction i using Nat.strongRecOn with
    | _ i ih =>
      intro hi
      cases hli : listed[i]? with
      | none => rw [Array.getElem?_eq_none_iff] at hli; omega
      | some b =>
        cases b with
        | true => rfl
        | false =>
          exfalso
          have ho : ops.toList[i]? = some (ops.toList[i]'(by omega)) := List.getElem?_eq_getElem (by omega)
          have hmem : i ∈ Region.ready .any ops listed := by
            unfold Region.ready
            rw [List.mem_filter]
            refine ⟨by simp at hm; simp; omega, ?_⟩
            have ho' : ops[i]? = some (ops.toList[i]'(by omega)) := by simp
            simp only [Array.getD_eq_getD_getElem?, hli, Option.getD_some, Bool.not_false, Bool.true_and, ho', Option.map_some]
            rw [Array.all_eq_true_iff_forall_mem]
            intro e he
            cases hb : Region.binds .any e with
            | false => rfl
            | true =>
              have hd : e.on ∈ depsOf (ops.toList[i]'(by omega)) := by
                unfold depsOf
                exact List.mem_map.2 ⟨e, List.mem_filter.2 ⟨by simpa using he, hb⟩, rfl⟩
              have hlt := (hst i _ ho).1 e.on hd
              rw [ih e.on hlt (by omega)]
              rfl
          rw [hr] at hmem
          simp at hmem
  intro fuel
  induction fuel with
  | zero =>
    intro listed a w β hsz hcount hcl hi
    have hall : ∀ i, i < m → listed[i]? = some true := by
      intro i hi
      have h0 : false ∉ listed.toList := List.count_eq_zero.mp (by omega)
      have : listed[i]? = some (listed[i]'(by omega)) := Array.getElem?_eq_getElem (by omega)
      rw [this]
      cases hb : listed[i]'(by omega) with
      | true => rfl
      | false => exact absurd (by rw [← hb]; simp) h0
    refine ⟨?_, fin listed a w β hall hi⟩
    unfold Region.ready
    rw [List.filter_eq_nil_iff]
    intro i hir
    have him : i < m := by simp at hir hm; omega
    simp [hall i him]
  | succ fuel ih =>
    intro listed a w β hsz hcount hcl hi
    refine ⟨fun hr => fin listed a w β (stuck listed hsz hr) hi, fun i hir => ?_⟩
    unfold Region.ready at hir
    rw [List.mem_filter] at hir
    obtain ⟨hir1, hir2⟩ := hir
    have him : i < m := by simp at hir1 hm; omega
    have ho : ops.toList[i]? = some (ops.toList[i]'(by omega)) := List.getElem?_eq_getElem (by omega)
    have ho' : ops[i]? = some (ops.toList[i]'(by omega)) := by simp
    simp only [Bool.and_eq_true, ho', Option.map_some, Option.getD_some] at hir2
    obtain ⟨hl, hdeps⟩ := hir2
    have hli : listed[i]? = some false := by
      have e : listed[i]? = some (listed[i]'(by omega)) := Array.getElem?_eq_getElem (by omega)
      simp only [Array.getD_eq_getD_getElem?, e, Option.getD_some] at hl
      rw [e]
      cases hb : listed[i]'(by omega) with
      | false => rfl
      | true => rw [hb] at hl; simp at hl
    have hdT : ∀ d ∈ depsOf (ops.toList[i]'(by omega)), listed[d]? = some true := by
      intro d hd
      unfold depsOf at hd
      obtain ⟨e, he, rfl⟩ := List.mem_map.1 hd
      obtain ⟨he1, he2⟩ := List.mem_filter.1 he
      rw [Array.all_eq_true_iff_forall_mem] at hdeps
      have := hdeps e (by simpa using he1)
      rw [he2] at this
      simp only [Bool.not_true, Bool.false_or, Array.getD_eq_getD_getElem?] at this
      cases hb : listed[e.on]? with
      | none => rw [hb] at this; simp at this
      | some b => rw [hb] at this; simp at this; rw [this]
    refine Inv.step (P := P) hm hL (fun a b => a < b ∧ (ms.getD b 0).testBit a = true) ?_ hlt0T hlt0H hi him (by rw [hli]; simp) ?_ ?_ ?_
    · intro a b hab hb
      by_cases hbit : (ms.getD b 0).testBit a = true
      · exact .inl ⟨hab, hbit⟩
      · refine .inr ⟨(hpair a b hab hb).resolve_left hbit, fun oa ob hoa hob => ((hst b ob hob).2 a oa hab hoa).resolve_left hbit⟩
    · rintro p ⟨hp1, hp2⟩
      exact hmask (fun i => listed[i]? = some true) hcl i _ ho hdT p hp2
    · rintro p ⟨hp1, hp2⟩ hTp
      have hpm : p < m := by
        have := (Array.getElem?_eq_some_iff.mp hTp).1
        omega
      have hop : ops.toList[p]? = some (ops.toList[p]'(by omega)) := List.getElem?_eq_getElem (by omega)
      have := hmask (fun i => listed[i]? = some true) hcl p _ hop (hcl p _ hop hTp) i hp2
      rw [hli] at this
      simp at this
    · intro β' a' w' hi'
      have hset : ∀ k, (listed.setIfInBounds i true)[k]? = some true ↔ (listed[k]? = some true ∨ k = i) := by
        intro k
        rw [Array.getElem?_setIfInBounds]
        by_cases e : i = k
        · subst e
          rw [if_pos rfl, if_pos (by omega)]
          simp
        · rw [if_neg e]
          simp [show k ≠ i from fun h => e h.symm]
      refine ih (listed.setIfInBounds i true) a' w' β' (by simp [hsz]) ?_ ?_ (hi'.congr fun p _ => (hset p).symm)
      · rw [Array.toList_setIfInBounds, List.count_set (by simp; omega)]
        have hb : (listed.toList[i]'(by simp; omega)) = false := by
          have := hli
          rw [Array.getElem?_eq_getElem (by omega)] at this
          simpa using Option.some.inj this
        rw [hb, if_pos (by decide), if_neg (by decide)]
        omega
      · intro q o hq hTq d hd
        rw [hset] at hTq ⊢
        rcases hTq with g | rfl
        · exact .inl (hcl q o hq g d hd)
        · rw [ho] at hq
          obtain rfl := Option.some.inj hq
          exact .inl (hdT d hd)

/-- A region whose order is drawn: one run in the order of the text is enough, if what is not ordered does not disturb it. -/
theorem W.regionD {N : Nat} {id : Nat} {ops : Array Oper} {s : St} {Q : Exit → St → Prop} (ms : List Nat) (hP : P.follows .mixedOrders = true) (hstatic : staticOk ops ms = true)
    (h : wopsD P N ops ops.toList ms 0 [] s (Q .normal)) : W P N (.region id ops true) s Q := by
  intro β a w hr
  obtain ⟨S, need, dom, hS, hL, hPr, _, hK⟩ := wopsD_trace (P := P) (ops := ops) (ms := ms) (K := Q .normal) ops.toList 0 [] s (by simp) (by simpa using h) (by simp)
  subst hS
  have hK' : Q .normal (S ops.toList.length) := by
    rw [Nat.zero_max] at hK; exact hK
  refine wp_region_any hP ?_
  have key := any_sound (P := P) (N := N) (m := ops.toList.length) (β0 := β) (w0 := w) (Q := Q) rfl (fun q o ho => hL q o (Nat.zero_le _) ho) hstatic (fun a b hab hb => hPr a b (Nat.zero_le _) hab hb)
    (fun t v ht => by obtain ⟨u, _, huv⟩ := hr.tmp t v ht; exact huv.lt hr.fresh)
    (fun x b hx => by obtain ⟨l, _, hk⟩ := hr.sat.ok x b hx; exact hk.blkLt hr.fresh) hK' ops.size (Array.replicate ops.size false) a { w with drawn := w.drawn + 1 } β (by simp) (by simp)
    (fun i o _ hi => by simp [Array.getElem?_replicate] at hi)
  refine key ?_
  have hnone : ∀ p, p < ops.toList.length → ¬ ((Array.replicate ops.size false)[p]? = some true) := fun p _ h => by simp [Array.getElem?_replicate] at h
  have e1 : ∀ t, mix (fun j t => get (S j).ts t) (fun j t => ∃ o, ops.toList[j]? = some o ∧ o.dst = some t) (fun i => (Array.replicate ops.size false)[i]? = some true) ops.toList.length t = get (S 0).ts t := fun t =>
    mix_none (S := fun j t => get (S j).ts t) hnone
  have e2 : mix (fun j => (S j).H) dom (fun i => (Array.replicate ops.size false)[i]? = some true) ops.toList.length = (S 0).H := funext fun x => mix_none (S := fun j => (S j).H) hnone
  refine ⟨hr.defers, hr.size, fun t v ht => hr.tmp t v (by rw [e1] at ht; exact ht), ?_, fun x l hx => ?_, fun i hi hT => absurd hT (hnone i hi), fun i hi hT => absurd hT (hnone i hi), ?_⟩
  · rw [e2]; exact hr.sat.same rfl
  · rcases Nat.lt_or_ge x (S 0).n with g | g
    · exact .inl g
    · rw [hr.fresh x g] at hx; simp at hx
  · rw [e2]
    have g := Grow.refl (S 0).H w hr.fresh
    exact ⟨g.names, rfl, rfl, rfl, Nat.le_refl _, fun _ _ _ => rfl, g.own, g.dom⟩

end Go.Sep
