/- Slices written out, cut, appended to; lengths; greatest and least. -/
import Derived.Test.YtkfhblkjllbejaaOps5
namespace Go.Sep
open Go
set_option linter.unusedVariables false
set_option linter.unusedSimpArgs false

variable {P : Program}

/-! ### []T{..} -/

def cBuildSlice (P : Program) (t : TypeId) (len : Nat) (H : Heap) (n : Nat) (parts : List (Nat × Value)) : Option (Value × Heap × Nat) :=
  match ti P t with
  | some T => match T.desc with
    | .slice e => match ti P e with
      | some E => if len ≤ 1000 ∧ E.size ≤ 1000 ∧ E.zero.length = E.size ∧ E.zero.all konst0 then
          match fillC P (fun i => some (i * E.size, E.size)) (zeros E.zero len) parts with
          | some cs => if cs.length = len * E.size then some (.slice (some ⟨n, 0, none⟩) len E.size, H.set n (.cells false cs), n + 1) else none
          | none => none
        else none
      | none => none
    | _ => none
  | none => none

theorem buildSlice_sound {t : TypeId} {len n : Nat} {β : Names} {H H' : Heap} {w : World} (hs : Sat β H w) (hf : ∀ x, n ≤ x → β x = none) {parts parts' : List (Nat × Value)} {v : Value} {n' : Nat}
    (hp : All2 (fun (a b : Nat × Value) => a.1 = b.1 ∧ VA β a.2 b.2) parts parts') (h : cBuildSlice P t len H n parts = some (v, H', n')) :
    ∃ q w' β', (Instr.buildSlice t len parts'.toArray).run P w = .ok q w' ∧ VT β' v q ∧ Sat β' H' w' ∧ n ≤ n' ∧ (∀ x, n' ≤ x → β' x = none) ∧ Grow n β H w β' H' w' := by
  unfold cBuildSlice at h
  split at h
  case h_2 => simp at h
  case h_1 T hT =>
    split at h
    case h_2 => simp at h
    case h_1 e hTe =>
      split at h
      case h_2 => simp at h
      case h_1 E hE =>
        split at h
        case isFalse => simp at h
        case isTrue hk =>
          obtain ⟨h0, h1, h3, h4⟩ := hk
          split at h
          case h_2 => simp at h
          case h_1 cs hcs =>
            split at h
            case isFalse => simp at h
            case isTrue hlen =>
              simp only [Option.some.injEq, Prod.mk.injEq] at h
              obtain ⟨rfl, rfl, rfl⟩ := h
              obtain ⟨d, ii, z, hd, hii, hz, e1, e2, e3, e4, e5⟩ := ti_some hT
              obtain ⟨d', i', z', hd', hi', hz', e1', e2', e3', e4', _⟩ := ti_some hE
              have := TD.of_slice (e1.symm.trans hTe)
              subst this
              have hzs : z'.cells.size = i'.size := by rw [e4', e2'] at h3; simpa using h3
              have hz0 : All2 (VC β) (zeros E.zero len) ((Array.range (len * z'.cells.size)).map (z'.cells[· % z'.cells.size]!)).toList := by
                refine All2.of_get (by simp [zeros_length, h3, e2', hzs]) fun i v hi => ?_
                rw [e4'] at hi
                obtain ⟨u, hu, huv⟩ := zeroRow_get (β := β) (by rw [← e4']; exact h4) len i v hi
                exact ⟨u, by rw [Array.getElem?_toList]; exact hu, huv⟩
              obtain ⟨r', hr', hrv⟩ := fill_sound (P := P) (β := β) (pm := fun i => some (i * i'.size, i'.size)) (fun i q hq => by rw [e2'] at hq; exact hq) parts parts' _ _ cs hp hz0 hcs
              have hrl : cs.length = r'.size := by have := hrv.length; simpa using this
              obtain ⟨β', hrun, hn, hle, g1, g2, g3⟩ := newRow_sound (P := P) hs hf (cs := cs) (c := r') e (by omega) (fun i v hi => by
                obtain ⟨u, hu, huv⟩ := hrv.get i v hi; exact ⟨u, by simpa using hu, huv⟩)
              refine ⟨.slice (some ⟨w.heap.size, 0, none⟩) len len, w.alloc (.cells r' e), β', ?_, ?_, g1, Nat.le_succ _, g2, g3⟩
              · have hroom : ¬ (len * i'.size > 2 ^ 24) := by
                  have : len * i'.size ≤ 1000 * 1000 := Nat.mul_le_mul h0 (by omega)
                  omega
                have hcnv : (Array.range (len * i'.size)).map (fun x => (if len * i'.size = 0 then (#[] : Array Value) else z'.cells)[x % (if len * i'.size = 0 then (#[] : Array Value) else z'.cells).size]!) =
                    ((Array.range (len * z'.cells.size)).map (z'.cells[· % z'.cells.size]!)) := by
                  by_cases h00 : len * i'.size = 0
                  · simp [hzs, h00]
                  · simp only [hzs, if_neg h00]
                rw [← hcnv] at hr'
                simp only [Instr.buildSlice, Sem.run_bind, run_underlying hd, Result.andThen_ok, run_size hi', if_neg hroom, Sem.run_pure]
                by_cases h00 : len * i'.size = 0
                · simp only [h00, if_true] at hr' ⊢
                  simp only [Sem.run_bind, Sem.run_pure, Result.andThen_ok, hr', hrun]
                · simp only [if_neg h00] at hr' ⊢
                  simp only [Sem.run_bind, run_zero hi' hz', Sem.run_pure, Result.andThen_ok, hr', hrun]
              · exact ⟨⟨w.heap.size, 0, r'.size⟩, len, hn, rfl, Nat.le_refl _, by rw [e2'] at hlen ⊢; simp; omega, by simp⟩

/-! ### s[l:h] -/

/-- The bounds of a cut. -/
def cBounds (n : Nat) (lo hi mx : Option Value) : Option (Nat × Nat × Option Nat) :=
  let get (v : Option Value) (d : Nat) : Option Nat := match v with
    | none => some d
    | some (.int _ i) => if 0 ≤ i ∧ i ≤ (n : Int) then some i.toNat else none
    | _ => none
  match get lo 0, get hi n with
  | some l, some h => if l ≤ h then match mx with
      | none => some (l, h, none)
      | some (.int _ i) => if 0 ≤ i ∧ i ≤ (n : Int) ∧ h ≤ i.toNat ∧ hi.isSome then some (l, h, some i.toNat) else none
      | _ => none
    else none
  | _, _ => none

theorem run_sliceBound {w : World} {q : IntKind} {i : Int} {y : Nat} {code : BoundsCode} (h0 : 0 ≤ i) (h1 : i ≤ (y : Int)) :
    (Instr.sliceBound (.int q i) y code).run P w = .ok i.toNat w := by
  unfold Instr.sliceBound
  simp only [asIntOf, Sem.run_bind, Sem.run_pure, Result.andThen_ok]
  rw [if_pos ⟨h0, h1⟩]
  rfl

theorem cBounds_sound {β : Names} {w : World} {isSlice : Bool} {n cap : Nat} (hcap : n ≤ cap) {lo hi mx lo' hi' mx' : Option Value}
    (h1 : All2 (fun a b => a = none ∧ b = none ∨ ∃ x y, a = some x ∧ b = some y ∧ VT β x y) [lo, hi, mx] [lo', hi', mx'])
    {l h : Nat} {m : Option Nat} (hb : cBounds n lo hi mx = some (l, h, m)) :
    (Instr.sliceBounds isSlice n cap lo' hi' mx').run P w = .ok (l, h, m.getD cap) w ∧ l ≤ h ∧ h ≤ n ∧ (∀ k, m = some k → h ≤ k ∧ k ≤ n) := by
  obtain ⟨hlo, hhi, hmx, _⟩ := h1
  have bound : ∀ (a b : Option Value) (d k : Nat), (a = none ∧ b = none ∨ ∃ x y, a = some x ∧ b = some y ∧ VT β x y) →
      (match a with | none => some d | some (.int _ i) => if 0 ≤ i ∧ i ≤ (n : Int) then some i.toNat else none | _ => none) = some k →
      (b = none ∧ k = d ∧ a = none) ∨ ∃ q i, a = some (.int q i) ∧ b = some (.int q i) ∧ 0 ≤ i ∧ i ≤ (n : Int) ∧ k = i.toNat := by
    intro a b d k hab hk
    rcases hab with ⟨rfl, rfl⟩ | ⟨x, y, rfl, rfl, hxy⟩
    · simp at hk; exact .inl ⟨rfl, hk.symm, rfl⟩
    · cases x <;> simp at hk
      rename_i q i
      obtain rfl := int_inv hxy
      exact .inr ⟨q, i, rfl, rfl, hk.1.1, hk.1.2, hk.2.symm⟩
  unfold cBounds at hb
  simp only [] at hb
  split at hb
  case h_2 => simp at hb
  case h_1 l0 h0 hl0 hh0 =>
    split at hb
    case isFalse => simp at hb
    case isTrue hle =>
      have B1 := bound lo lo' 0 l0 hlo hl0
      have B2 := bound hi hi' n h0 hhi hh0
      split at hb
      · simp only [Option.some.injEq, Prod.mk.injEq] at hb
        obtain ⟨rfl, rfl, rfl⟩ := hb
        have hm' : mx' = none := by
          rcases hmx with ⟨_, h⟩ | ⟨x, y, h, _⟩
          · exact h
          · simp at h
        subst hm'
        refine ⟨?_, hle, ?_, by simp⟩
        · rcases B1 with ⟨rfl, rfl, _⟩ | ⟨q, i, _, rfl, a1, a2, rfl⟩ <;> rcases B2 with ⟨rfl, rfl, _⟩ | ⟨q', j, _, rfl, b1, b2, rfl⟩
          · rfl
          · simp only [Instr.sliceBounds, Sem.run_bind, Sem.run_pure, Result.andThen_ok, run_sliceBound (P := P) (w := w) b1 (show j ≤ (cap : Int) by omega)]; rfl
          · simp only [Instr.sliceBounds, Sem.run_bind, Sem.run_pure, Result.andThen_ok, run_sliceBound (P := P) (w := w) a1 a2]; rfl
          · simp only [Instr.sliceBounds, Sem.run_bind, Sem.run_pure, Result.andThen_ok, run_sliceBound (P := P) (w := w) b1 (show j ≤ (cap : Int) by omega),
              run_sliceBound (P := P) (w := w) (y := j.toNat) a1 (show i ≤ (j.toNat : Int) by omega)]; rfl
        · rcases B2 with ⟨_, rfl, _⟩ | ⟨q', j, _, _, b1, b2, rfl⟩ <;> omega
      · rename_i q i
        split at hb
        case isFalse => simp at hb
        case isTrue hk =>
          simp only [Option.some.injEq, Prod.mk.injEq] at hb
          obtain ⟨rfl, rfl, rfl⟩ := hb
          obtain ⟨k1, k2, k3, k4⟩ := hk
          have hm' : mx' = some (.int q i) := by
            rcases hmx with ⟨h, _⟩ | ⟨x, y, h, h2, h3⟩
            · simp at h
            · simp at h; subst h; rw [h2, int_inv h3]
          subst hm'
          refine ⟨?_, hle, ?_, ?_⟩
          · rcases B2 with ⟨_, _, e⟩ | ⟨q', j, _, rfl, b1, b2, rfl⟩
            · simp [e] at k4
            · rcases B1 with ⟨rfl, rfl, _⟩ | ⟨q2, i2, _, rfl, a1, a2, rfl⟩
              · simp only [Instr.sliceBounds, Sem.run_bind, Sem.run_pure, Result.andThen_ok, run_sliceBound (P := P) (w := w) k1 (show i ≤ (cap : Int) by omega),
                  run_sliceBound (P := P) (w := w) (y := i.toNat) b1 (show j ≤ (i.toNat : Int) by omega)]; rfl
              · simp only [Instr.sliceBounds, Sem.run_bind, Sem.run_pure, Result.andThen_ok, run_sliceBound (P := P) (w := w) k1 (show i ≤ (cap : Int) by omega),
                  run_sliceBound (P := P) (w := w) (y := i.toNat) b1 (show j ≤ (i.toNat : Int) by omega),
                  run_sliceBound (P := P) (w := w) (y := j.toNat) a1 (show i2 ≤ (j.toNat : Int) by omega)]; rfl
          · rcases B2 with ⟨_, rfl, _⟩ | ⟨q', j, _, _, b1, b2, rfl⟩ <;> omega
          · intro k hk; simp at hk; subst hk; omega
      · simp at hb

def cSlice (P : Program) (t : TypeId) (H : Heap) (x : Value) (lo hi mx : Option Value) : Option Value :=
  match ti P t with
  | some T => match T.desc, x with
    | .slice e, .slice (some p) n es => match ti P e with
      | some E => if es = E.size then match cBounds n lo hi mx with
          | some (l, h, m) => if m = some l then some (.slice none 0 1) else if h = l then some (.slice none 0 2) else some (.slice (some ⟨p.block, p.off + l * es, none⟩) (h - l) es)
          | none => none
        else none
      | none => none
    | .slice e, .slice none n es => match ti P e with
      | some _ => match cBounds 0 lo hi mx with
        | some _ => some (.slice none n es)
        | none => none
      | none => none
    | .array n e, .pointer (some p) => match ti P e, H p.block with
      | some E, some (.cells _ cs) => if p.off + n * E.size ≤ cs.length then match cBounds n lo hi mx with
          | some (l, h, m) => if m = some l then some (.slice none 0 1) else if h = l then some (.slice none 0 2) else some (.slice (some ⟨p.block, p.off + l * E.size, none⟩) (h - l) E.size)
          | none => none
        else none
      | _, _ => none
    | _, _ => none
  | none => none

abbrev OptRel (β : Names) : Option Value → Option Value → Prop := fun a b => a = none ∧ b = none ∨ ∃ x y, a = some x ∧ b = some y ∧ VT β x y

theorem cut_rel {β : Names} {p : Addr} {lc : Loc} {es c l h mm : Nat} {m : Option Nat} (hl : β p.block = some lc) (hsp : lc.base + p.off + c * es ≤ lc.size)
    (hlh : l ≤ h) (hmm : h ≤ mm) (hmc : mm ≤ c) (hm : ∀ k, m = some k → mm = k) {v : Value}
    (hv : (if m = some l then some (.slice none 0 1) else if h = l then some (.slice none 0 2) else some (.slice (some ⟨p.block, p.off + l * es, none⟩) (h - l) es)) = some v) :
    VT β v (.slice (some (if mm = l then (⟨lc.blk, lc.base + p.off, none⟩ : Addr) else ⟨lc.blk, lc.base + p.off + l * es, none⟩)) (h - l) (mm - l)) := by
  split at hv
  · rename_i e
    obtain rfl := Option.some.inj hv
    have := hm _ e
    subst this
    have h0 : h - mm = 0 := by omega
    rw [h0, Nat.sub_self]
    exact ⟨rfl, .inr (.inl ⟨rfl, _, rfl⟩)⟩
  · split at hv
    · rename_i e
      obtain rfl := Option.some.inj hv
      subst e
      rw [Nat.sub_self]
      exact ⟨rfl, .inr (.inr ⟨rfl, _, _, rfl⟩)⟩
    · rename_i e
      obtain rfl := Option.some.inj hv
      rw [if_neg (by omega)]
      refine ⟨lc, mm - l, hl, rfl, by omega, ?_, by rw [Nat.add_assoc]⟩
      have : l * es + (mm - l) * es = mm * es := by rw [← Nat.add_mul]; congr 1; omega
      have h2 : mm * es ≤ c * es := Nat.mul_le_mul_right _ hmc
      simp only []
      omega

theorem slice_sound {t : TypeId} {β : Names} {H : Heap} {w : World} (hs : Sat β H w) {x u v : Value} {lo hi mx lo' up' mx' : Option Value} (hx : VT β x u)
    (hb : All2 (OptRel β) [lo, hi, mx] [lo', up', mx']) (h : cSlice P t H x lo hi mx = some v) : Pure P β w (Instr.sliceAt t u lo' up' mx') v := by
  unfold cSlice at h
  split at h
  case h_2 => simp at h
  case h_1 T hT =>
    obtain ⟨d, ii, z, hd, hii, hz, e1, e2, e3, e4, e5⟩ := ti_some hT
    split at h
    case h_4 => simp at h
    case h_1 e p n es hTe =>
      have := TD.of_slice (e1.symm.trans hTe)
      subst this
      split at h
      case h_2 => simp at h
      case h_1 E hE =>
        obtain ⟨d', i', z', hd', hi', hz', e1', e2', e3', e4', _⟩ := ti_some hE
        split at h
        case isFalse => simp at h
        case isTrue hes =>
          split at h
          case h_2 => simp at h
          case h_1 l hh m hbd =>
            obtain ⟨lc, c, hl, _, hnc, hsp, rfl⟩ := hx
            obtain ⟨hrun, b1, b2, b3⟩ := cBounds_sound (P := P) (w := w) (isSlice := true) hnc hb hbd
            have hmm : hh ≤ m.getD c := by
              cases m with
              | none => simp; omega
              | some k => exact (b3 k rfl).1
            have hmc : m.getD c ≤ c := by
              cases m with
              | none => simp
              | some k => have := (b3 k rfl).2; simp; omega
            refine ⟨_, ?_, cut_rel (m := m) hl hsp b1 hmm hmc (fun k hk => by subst hk; rfl) h⟩
            simp only [Instr.sliceAt, Instr.slice, Sem.run_bind, run_underlying hd, Result.andThen_ok, hrun, run_size hi', Sem.run_pure]
            rw [hes, e2']
            congr 2
            by_cases e : m.getD c = l
            · rw [if_pos e, if_pos e]
            · rw [if_neg e, if_neg e]; simp [addr_add]
    case h_2 e n es hTe =>
      have := TD.of_slice (e1.symm.trans hTe)
      subst this
      split at h
      case h_2 => simp at h
      case h_1 E hE =>
        obtain ⟨d', i', z', hd', hi', hz', e1', e2', e3', e4', _⟩ := ti_some hE
        split at h
        case h_2 => simp at h
        case h_1 q hbd =>
          obtain ⟨l, hh, m⟩ := q
          obtain rfl := Option.some.inj h
          obtain ⟨rfl, hx⟩ := hx
          have key : ∀ A c, ∃ A' c', (Instr.sliceAt t (.slice A 0 c) lo' up' mx').run P w = .ok (.slice A' 0 c') w ∧ (c = 0 → c' = 0) ∧ (A = none → A' = none) := by
            intro A c
            obtain ⟨hrun, b1, b2, b3⟩ := cBounds_sound (P := P) (w := w) (isSlice := true) (Nat.zero_le c) hb hbd
            have h0 : hh = 0 := by omega
            have l0 : l = 0 := by omega
            subst h0; subst l0
            have hmc : m.getD c ≤ c := by
              cases m with
              | none => simp
              | some k => have := (b3 k rfl).2; simp; omega
            refine ⟨if m.getD c = 0 then A else A.map (·.add (0 * i'.size)), m.getD c - 0, ?_, by omega, ?_⟩
            · simp only [Instr.sliceAt, Instr.slice, Sem.run_bind, run_underlying hd, Result.andThen_ok, hrun, run_size hi', Sem.run_pure]
            · rintro rfl; simp
          rcases hx with ⟨rfl, rfl⟩ | ⟨rfl, A, rfl⟩ | ⟨rfl, A, c, rfl⟩
          · obtain ⟨A', c', h1, h2, h3⟩ := key none 0
            have := h2 rfl
            subst this
            have := h3 rfl
            subst this
            exact ⟨_, h1, rfl, .inl ⟨rfl, rfl⟩⟩
          · obtain ⟨A', c', h1, h2, _⟩ := key A 0
            have := h2 rfl
            subst this
            exact ⟨_, h1, rfl, .inr (.inl ⟨rfl, _, rfl⟩)⟩
          · obtain ⟨A', c', h1, h2, _⟩ := key A c
            exact ⟨_, h1, rfl, .inr (.inr ⟨rfl, _, _, rfl⟩)⟩
    case h_3 n e p hTe =>
      have := TD.of_array (e1.symm.trans hTe)
      subst this
      split at h
      case h_2 => simp at h
      case h_1 E ro cs hE hH =>
        obtain ⟨d', i', z', hd', hi', hz', e1', e2', e3', e4', _⟩ := ti_some hE
        split at h
        case isFalse => simp at h
        case isTrue hfit =>
          split at h
          case h_2 => simp at h
          case h_1 l hh m hbd =>
            obtain ⟨lc, hl, rfl⟩ := pointer_inv hx
            obtain ⟨lc', c', el, fz, hl', _, hsz, hlen, _⟩ := hs.cells hH
            rw [hl] at hl'
            obtain rfl := Option.some.inj hl'
            obtain ⟨hrun, b1, b2, b3⟩ := cBounds_sound (P := P) (w := w) (isSlice := false) (Nat.le_refl n) hb hbd
            have hmm : hh ≤ m.getD n := by
              cases m with
              | none => simp; omega
              | some k => exact (b3 k rfl).1
            have hmc : m.getD n ≤ n := by
              cases m with
              | none => simp
              | some k => have := (b3 k rfl).2; simp; omega
            refine ⟨_, ?_, cut_rel (m := m) hl (es := E.size) (c := n) (by omega) b1 hmm hmc (fun k hk => by subst hk; rfl) h⟩
            simp only [Instr.sliceAt, Instr.sureAddr, Sem.run_bind, run_underlying hd, Result.andThen_ok, hrun, run_size hi', Sem.run_pure, e2', addr_add]

/-! ### [n]T(s) -/

def cArrayAt (P : Program) (t : TypeId) : Value → Option Value
  | .slice (some p) n _ => match ti P t with
    | some T => match T.desc with
      | .array k _ => if k ≤ n then some (.pointer (some ⟨p.block, p.off, none⟩)) else none
      | _ => none
    | none => none
  | _ => none

theorem arrayAt_sound {t : TypeId} {β : Names} {w : World} {x u v : Value} (hx : VT β x u) (h : cArrayAt P t x = some v) : Pure P β w (Instr.arrayAt t u) v := by
  obtain ⟨p, n, es, rfl⟩ : ∃ p n es, x = .slice (some p) n es := by
    unfold cArrayAt at h
    split at h
    · exact ⟨_, _, _, rfl⟩
    · simp at h
  simp only [cArrayAt] at h
  split at h
  case h_2 => simp at h
  case h_1 T hT =>
    obtain ⟨d, ii, z, hd, hii, hz, e1, e2, e3, e4, e5⟩ := ti_some hT
    split at h
    case h_2 => simp at h
    case h_1 k e hTe =>
      have := TD.of_array (e1.symm.trans hTe)
      subst this
      split at h
      case isFalse => simp at h
      case isTrue hk =>
        obtain rfl := Option.some.inj h
        obtain ⟨lc, c, hl, _, _, _, rfl⟩ := hx
        exact ⟨_, by simp [Instr.arrayAt, run_underlying hd, Nat.not_lt.mpr hk], pointer_mk hl rfl⟩

/-! ### Functions made -/

def isV0 : Value → Bool
  | .func _ _ _ | .agg _ | .tuple _ => false
  | _ => true

def cMakeFunc (fn : Fn) (fs cs : List Value) : Option Value :=
  if fs = [] ∧ cs.all isV0 then some (.func fn #[] cs.toArray) else none

theorem isV0_V0 {β : Names} {c v : Value} (h : isV0 c = true) (hv : VT β c v) : V0 β c v := by
  cases c <;> first | exact hv | simp [isV0] at h

theorem all_V0 {β : Names} : ∀ {cs vs : List Value}, cs.all isV0 = true → All2 (VT β) cs vs → All2 (V0 β) cs vs
  | [], [], _, _ => trivial
  | c :: cs, v :: vs, h, hh => by simp at h; exact ⟨isV0_V0 h.1 hh.1, all_V0 (by simpa using h.2) hh.2⟩
  | [], _ :: _, _, hh => hh.elim
  | _ :: _, [], _, hh => hh.elim

theorem makeFunc_sound {fn : Fn} {fs cs fs' cs' : List Value} {β : Names} {w : World} {v : Value} (hf : All2 (VT β) fs fs') (hc : All2 (VT β) cs cs')
    (h : cMakeFunc fn fs cs = some v) : Pure P β w (Instr.makeFunc fn fs'.toArray cs'.toArray) v := by
  unfold cMakeFunc at h
  split at h
  · rename_i hk
    obtain ⟨rfl, hk⟩ := hk
    obtain rfl := Option.some.inj h
    have : fs' = [] := by cases fs' with | nil => rfl | cons _ _ => exact hf.elim
    subst this
    exact ⟨_, rfl, rfl, cs'.toArray, rfl, by simpa using all_V0 hk hc⟩
  · simp at h

/-! ### len -/

def cLen (P : Program) (t : TypeId) : Value → Option Value
  | .slice _ n _ => match ti P t with
    | some T => match T.desc with
      | .slice _ => some (.int .i64 n)
      | _ => none
    | none => none
  | _ => none

theorem len_sound {t ty : TypeId} {β : Names} {w : World} {x u v : Value} (hx : VT β x u) (h : cLen P t x = some v) : Pure P β w (Builtin.len_ #[t] ty #[u]) v := by
  obtain ⟨p, n, es, rfl⟩ : ∃ p n es, x = .slice p n es := by
    unfold cLen at h
    split at h
    · exact ⟨_, _, _, rfl⟩
    · simp at h
  simp only [cLen] at h
  split at h
  case h_2 => simp at h
  case h_1 T hT =>
    obtain ⟨d, ii, z, hd, hii, hz, e1, e2, e3, e4, e5⟩ := ti_some hT
    split at h
    case h_2 => simp at h
    case h_1 e hTe =>
      have := TD.of_slice (e1.symm.trans hTe)
      subst this
      obtain rfl := Option.some.inj h
      have : ∃ A c, u = .slice A n c := by
        cases p with
        | none => obtain ⟨rfl, ⟨_, rfl⟩ | ⟨_, A, rfl⟩ | ⟨_, A, c, rfl⟩⟩ := hx <;> exact ⟨_, _, rfl⟩
        | some p => obtain ⟨lc, c, _, _, _, _, rfl⟩ := hx; exact ⟨_, _, rfl⟩
      obtain ⟨A, c, rfl⟩ := this
      exact ⟨.int .i64 n, by simp [Builtin.len_, run_underlying hd, goInt], rfl⟩

/-! ### max, min -/

theorem max2_ok {w : World} (k : IntKind) (a b : Int) : (Builtin.max2 (.int k a) (.int k b)).run P w = .ok (.int k (max a b)) w := by
  simp only [Builtin.max2, Sem.run_pure]
  congr 2
  split <;> omega

theorem min2_ok {w : World} (k : IntKind) (a b : Int) : (Builtin.min2 (.int k a) (.int k b)).run P w = .ok (.int k (min a b)) w := by
  simp only [Builtin.min2, Sem.run_pure]
  congr 2
  split <;> omega

theorem ints_inv {β : Names} : ∀ {xs us : List Value}, All2 (VT β) xs us → (∀ x ∈ xs, ∃ k i, x = .int k i) → us = xs
  | [], [], _, _ => rfl
  | x :: xs, u :: us, h, hi => by
    obtain ⟨k, i, rfl⟩ := hi x (by simp)
    rw [int_inv h.1, ints_inv h.2 fun y hy => hi y (by simp [hy])]
  | [], _ :: _, h, _ => h.elim
  | _ :: _, [], h, _ => h.elim

theorem max_sound {ts : Array TypeId} {ty : TypeId} {β : Names} {w : World} {xs us : List Value} {v : Value} (hx : All2 (VT β) xs us) (h : cMax xs = some v) :
    Pure P β w (Builtin.max_ ts ty us.toArray) v := by
  have hus : us = xs := ints_inv hx (by
    unfold cMax at h
    split at h <;> first | (simp; done) | simp at h)
  subst hus
  unfold cMax at h
  split at h
  · rename_i k a
    obtain rfl := Option.some.inj h
    exact ⟨.int k a, rfl, rfl⟩
  · split at h <;> simp at h
    rename_i hk
    subst hk; subst h
    exact ⟨_, by simp [Builtin.max_, max2_ok], rfl⟩
  · split at h <;> simp at h
    rename_i hk
    obtain ⟨rfl, rfl⟩ := hk
    subst h
    exact ⟨_, by simp [Builtin.max_, max2_ok], rfl⟩
  · simp at h

theorem min_sound {ts : Array TypeId} {ty : TypeId} {β : Names} {w : World} {xs us : List Value} {v : Value} (hx : All2 (VT β) xs us) (h : cMin xs = some v) :
    Pure P β w (Builtin.min_ ts ty us.toArray) v := by
  have hus : us = xs := ints_inv hx (by
    unfold cMin at h
    split at h <;> first | (simp; done) | simp at h)
  subst hus
  unfold cMin at h
  split at h
  · rename_i k a
    obtain rfl := Option.some.inj h
    exact ⟨.int k a, rfl, rfl⟩
  · split at h <;> simp at h
    rename_i hk
    subst hk; subst h
    exact ⟨_, by simp [Builtin.min_, min2_ok], rfl⟩
  · split at h <;> simp at h
    rename_i hk
    obtain ⟨rfl, rfl⟩ := hk
    subst h
    exact ⟨_, by simp [Builtin.min_, min2_ok], rfl⟩
  · simp at h

end Go.Sep
