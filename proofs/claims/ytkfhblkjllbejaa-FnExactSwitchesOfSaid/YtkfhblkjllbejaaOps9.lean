/- Each operation: maps whose keys are whole numbers. -/
import Derived.Test.YtkfhblkjllbejaaOps8
import Derived.MapKept
namespace Go.Sep
open Go
set_option linter.unusedVariables false
set_option linter.unusedSimpArgs false

variable {P : Program}

def zeroOf (P : Program) (t : TypeId) : Option Value :=
  match P.info? t with
  | some i => i.zero
  | none => none

theorem zeroOf_run {t : TypeId} {z : Value} (h : zeroOf P t = some z) (w : World) : (zeroValue t).run P w = .ok z w := by
  unfold zeroOf at h
  split at h
  · rename_i i hi; exact run_zero hi h w
  · simp at h

/-- Where a whole number stands among the keys. -/
def mapFind (k : IntKind) (a : Int) : List (Value × Value) → Nat → Option (Option (Nat × Value))
  | [], _ => some none
  | (.int k' b, v) :: r, i => if k = k' then (if a = b then some (some (i, v)) else mapFind k a r (i + 1)) else none
  | _ :: _, _ => none

abbrev EntRel (β : Names) (p : Value × Value) (q : MapEntry) : Prop := VC β p.1 q.key ∧ VC β p.2 q.val

def FindRel (β : Names) : Option (Nat × Value) → Option (Nat × Value) → Prop
  | none, none => True
  | some (j, v), some (j', u) => j = j' ∧ VC β v u
  | _, _ => False

theorem find_sound {β : Names} {kk k : IntKind} {a : Int} : ∀ {es : List (Value × Value)} {l : List MapEntry} {i : Nat} {r : Option (Nat × Value)}, All2 (EntRel β) es l → mapFind k a es i = some r →
    ∃ r', Instr.findNow (.int kk) (.int k a) l i = some r' ∧ FindRel β r r'
  | [], [], i, r, _, h => by simp [mapFind] at h; subst h; exact ⟨none, rfl, trivial⟩
  | (key, v) :: es, e :: l, i, r, hr, h => by
    cases key with
    | int k' b =>
      simp only [mapFind] at h
      have hk : Value.int k' b = e.key := hr.1.1
      have hv : VC β v e.val := hr.1.2
      split at h
      · rename_i hkk
        subst hkk
        split at h
        · rename_i hab
          subst hab
          obtain rfl := Option.some.inj h
          exact ⟨some (i, e.val), by simp [Instr.findNow, Instr.sameNow, ← hk], rfl, hv⟩
        · rename_i hab
          obtain ⟨r', h1, h2⟩ := find_sound (kk := kk) hr.2 h
          exact ⟨r', by simp [Instr.findNow, Instr.sameNow, ← hk, beq_eq_false_iff_ne.mpr hab, h1], h2⟩
      · simp at h
    | _ => simp [mapFind] at h
  | [], _ :: _, _, _, hr, _ => hr.elim
  | _ :: _, [], _, _, hr, _ => hr.elim

theorem find_key {k : IntKind} {a : Int} : ∀ {es : List (Value × Value)} {i j : Nat} {v : Value}, mapFind k a es i = some (some (j, v)) → i ≤ j ∧ (es[j - i]?).map (·.1) = some (.int k a)
  | [], i, j, v, h => by simp [mapFind] at h
  | (key, u) :: es, i, j, v, h => by
    cases key with
    | int k' b =>
      simp only [mapFind] at h
      split at h
      · rename_i hkk
        subst hkk
        split at h
        · rename_i hab
          subst hab
          simp at h
          obtain ⟨rfl, rfl⟩ := h
          exact ⟨Nat.le_refl _, by simp⟩
        · obtain ⟨h1, h2⟩ := find_key h
          refine ⟨by omega, ?_⟩
          rw [show j - i = (j - (i + 1)) + 1 by omega]
          simpa using h2
      · simp at h
    | _ => simp [mapFind] at h

theorem run_check_int {t : TypeId} {kk : IntKind} (ht : P.underlying t = some (.int kk)) (e : Bool) (v : Value) (w : World) : (Instr.checkKey e 10000 t v).run P w = .ok () w := by
  unfold Instr.checkKey
  simp [run_underlying ht]

theorem run_find_int {β : Names} {t : TypeId} {kk k : IntKind} {a : Int} (ht : P.underlying t = some (.int kk)) {es : List (Value × Value)} {l : List MapEntry} {r : Option (Nat × Value)} (hr : All2 (EntRel β) es l) (h : mapFind k a es 0 = some r) (w : World) :
    ∃ r', (Instr.findKey t (.int k a) l).run P w = .ok r' w ∧ FindRel β r r' := by
  obtain ⟨r', h1, h2⟩ := find_sound (kk := kk) hr h
  exact ⟨r', by simp [Instr.findKey, run_underlying ht, h1], h2⟩

theorem Sat.map {β : Names} {H : Heap} {w : World} (hs : Sat β H w) {x : Nat} {es : List (Value × Value)} (hx : H x = some (.map es)) :
    ∃ l arr clk, β x = some l ∧ w.heap[l.blk]? = some (.map arr clk) ∧ All2 (EntRel β) es arr.toList := by
  obtain ⟨l, hl, arr, clk, h⟩ := hs.ok x _ hx
  exact ⟨l, arr, clk, hl, h⟩

def cMakeMap (P : Program) (t : TypeId) (H : Heap) (n : Nat) : Option (Value × Heap × Nat) := some (.map (some n), H.set n (.map []), n + 1)

theorem makeMap_sound {n : Nat} {β : Names} {H : Heap} {w : World} (hs : Sat β H w) (hf : ∀ x, n ≤ x → β x = none) (t : TypeId) :
    ∃ q w' β', (Instr.makeMap t none).run P w = .ok q w' ∧ VT β' (.map (some n)) q ∧ Sat β' (H.set n (.map [])) w' ∧ n ≤ n + 1 ∧ (∀ x, n + 1 ≤ x → β' x = none) ∧ Grow n β H w β' (H.set n (.map [])) w' := by
  have hb : BlkOk β (w.alloc (.map #[] 0)) ⟨w.heap.size, 0, 0⟩ (.map []) := ⟨#[], 0, heap_alloc_new, trivial⟩
  obtain ⟨h1, h2, h3⟩ := new_block hs hf hb
  refine ⟨.map (some w.heap.size), _, β.set n ⟨w.heap.size, 0, 0⟩, ?_, ⟨_, Names.set_same _ _ _, rfl⟩, h1, Nat.le_succ _, h2, h3⟩
  rfl

def cLookup (P : Program) (t : TypeId) (ok : Bool) (H : Heap) (x key : Value) : Option Value :=
  match ti P t with
  | some T => match T.desc with
    | .map kt et => match ti P kt, zeroOf P et, key, x with
      | some K, some z, .int k a, .map (some r) => match K.desc, H r with
        | .int _, some (.map es) => if konst z then match mapFind k a es 0 with
            | some (some (_, v)) => some (if ok then .tuple #[v, .bool true] else v)
            | some none => some (if ok then .tuple #[z, .bool false] else z)
            | none => none
          else none
        | _, _ => none
      | _, _, _, _ => none
    | _ => none
  | none => none

theorem TD.of_int' {d : TypeDesc} {k : IntKind} (h : TD.of d = .int k) : d = .int k := by
  cases d <;> simp [TD.of] at h
  subst h; rfl

theorem cLookup_congr {t : TypeId} {ok : Bool} {G H : Heap} {x k : Value} (h : ∀ r, x = .map (some r) → G r = H r) : cLookup P t ok G x k = cLookup P t ok H x k := by
  unfold cLookup
  cases ti P t with
  | none => rfl
  | some T =>
    simp only []
    cases T.desc with
    | map kt et =>
      simp only []
      cases ti P kt with
      | none => rfl
      | some K =>
        cases zeroOf P et with
        | none => rfl
        | some z => cases k with
          | int kk a => cases x with
            | map r => cases r with
              | none => rfl
              | some r => simp only []; rw [h r rfl]
            | _ => rfl
          | _ => rfl
    | _ => rfl

theorem map_inv {β : Names} {r : Nat} {u : Value} (h : VT β (.map (some r)) u) : ∃ l, β r = some l ∧ u = .map (some l.blk) := h

theorem lookup_sound {t : TypeId} {ok : Bool} {β : Names} {H : Heap} {w : World} (hs : Sat β H w) {x key u q v : Value}
    (hx : VT β x u) (hk : VT β key q) (h : cLookup P t ok H x key = some v) : ∃ r, (Instr.lookup t u q ok).run P w = .ok r w ∧ VT β v r := by
  unfold cLookup at h
  split at h
  case h_2 => simp at h
  case h_1 T hT =>
    split at h
    case h_2 => simp at h
    case h_1 kt et hTd =>
      split at h
      case h_2 => simp at h
      case h_1 K z k a r hK hz =>
        split at h
        case h_2 => simp at h
        case h_1 kk es hKd hH =>
          split at h
          case isFalse => simp at h
          case isTrue hkz =>
            obtain ⟨d, ii, zz, hd, hii, hzz, f1, f2, f3, f4, f5⟩ := ti_some hT
            obtain ⟨d', i', z', hd', hi', hz', e1', e2', e3', e4', _⟩ := ti_some hK
            have hdm := TD.of_map (f1.symm.trans hTd)
            have hdk := TD.of_int' (e1'.symm.trans hKd)
            subst hdm; subst hdk
            obtain ⟨l, hl, rfl⟩ := map_inv hx
            obtain ⟨l', arr, clk, hl', hc, hes⟩ := hs.map hH
            rw [hl] at hl'
            obtain rfl := Option.some.inj hl'
            have hq : q = .int k a := by have : Value.int k a = q := hk; exact this.symm
            subst hq
            split at h
            case h_3 => simp at h
            case h_1 j v' hf =>
              obtain rfl := Option.some.inj h
              obtain ⟨r', h1, h2⟩ := run_find_int (P := P) hd' hes hf w
              obtain ⟨j', u, rfl, rfl, hu⟩ : ∃ j' u, r' = some (j', u) ∧ j = j' ∧ VC β v' u := by
                cases r' with
                | none => exact h2.elim
                | some p => exact ⟨p.1, p.2, rfl, h2.1, h2.2⟩
              refine ⟨if ok then .tuple #[u, .bool true] else u, ?_, ?_⟩
              · simp [Instr.lookup, run_underlying hd, MapKept.run_getObj_map hc, run_check_int hd', h1]
              · cases ok
                · exact VT.of_VA (VA.of_VC hu)
                · exact ⟨_, rfl, VA.of_VC hu, VA.of_VC (show VC β (.bool true) (.bool true) from rfl), trivial⟩
            case h_2 hf =>
              obtain rfl := Option.some.inj h
              obtain ⟨r', h1, h2⟩ := run_find_int (P := P) hd' hes hf w
              obtain rfl : r' = none := by
                cases r' with
                | none => rfl
                | some p => exact h2.elim
              refine ⟨if ok then .tuple #[z, .bool false] else z, ?_, ?_⟩
              · simp [Instr.lookup, run_underlying hd, MapKept.run_getObj_map hc, run_check_int hd', h1, zeroOf_run hz]
              · have hzv : VA β z z := konst_VA hkz
                cases ok
                · exact VT.of_VA hzv
                · exact ⟨_, rfl, hzv, VA.of_VC (show VC β (.bool false) (.bool false) from rfl), trivial⟩

/-- What a map's entries become. -/
def mapPut (k : IntKind) (a : Int) (v : Value) (es : List (Value × Value)) : Option (List (Value × Value)) :=
  match mapFind k a es 0 with
  | some (some (i, _)) => some (es.set i (.int k a, v))
  | some none => some (es ++ [(.int k a, v)])
  | none => none

def cMapUpdate (P : Program) (t : TypeId) (H : Heap) (x key v : Value) : Option Heap :=
  match ti P t with
  | some T => match T.desc with
    | .map kt et => match ti P kt, key, x with
      | some K, .int k a, .map (some r) => match K.desc, H r with
        | .int _, some (.map es) => match v with
          | .agg _ => none
          | .tuple _ => none
          | v => match mapPut k a v es with
            | some es' => some (H.set r (.map es'))
            | none => none
        | _, _ => none
      | _, _, _ => none
    | _ => none
  | none => none

theorem set_other {w : World} {g k : Nat} {o : Obj} (h : k ≠ g) : ({ w with heap := w.heap.setIfInBounds g o } : World).heap[k]? = w.heap[k]? := by
  simp [Array.getElem?_setIfInBounds, Ne.symm h]

/-- An owned map is written; the block keeps its name. -/
theorem write_map {β : Names} {H : Heap} {w : World} {x : Nat} {es es' : List (Value × Value)} {l : Loc} {arr arr' : Array MapEntry} {clk clk' : Nat} (hs : Sat β H w)
    (hx : H x = some (.map es)) (hl : β x = some l) (hc : w.heap[l.blk]? = some (.map arr clk)) (he : All2 (EntRel β) es' arr'.toList) (n : Nat) (hf : ∀ x, n ≤ x → β x = none) :
    Sat β (H.set x (.map es')) { w with heap := w.heap.setIfInBounds l.blk (.map arr' clk') } ∧ Grow n β H w β (H.set x (.map es')) { w with heap := w.heap.setIfInBounds l.blk (.map arr' clk') } := by
  have hlt : l.blk < w.heap.size := (Array.getElem?_eq_some_iff.mp hc).1
  refine ⟨⟨?_, ?_⟩, ?_⟩
  · intro y b hy
    by_cases e : y = x
    · subst e
      rw [Heap.set_same] at hy
      obtain rfl := Option.some.inj hy
      exact ⟨l, hl, arr', clk', by simp [Array.getElem?_setIfInBounds, hlt], he⟩
    · rw [Heap.set_ne _ _ e] at hy
      obtain ⟨m, hm, hk⟩ := hs.ok y b hy
      refine ⟨m, hm, hk.world (set_other ?_)⟩
      exact fun e' => (hs.sep x y _ b l m (fun e2 => e e2.symm) hx hy rfl hl hm) e'.symm
  · intro y z b1 b2 m1 m2 hyz hy hz hrw hm1 hm2
    have key : ∀ y b, H.set x (.map es') y = some b → ∃ b', H y = some b' ∧ b'.rw = b.rw := by
      intro y b hy
      by_cases e : y = x
      · subst e; rw [Heap.set_same] at hy; obtain rfl := Option.some.inj hy; exact ⟨_, hx, rfl⟩
      · rw [Heap.set_ne _ _ e] at hy; exact ⟨b, hy, rfl⟩
    obtain ⟨b1', hy', e1⟩ := key y b1 hy
    obtain ⟨b2', hz', e2⟩ := key z b2 hz
    exact hs.sep y z b1' b2' m1 m2 hyz hy' hz' (e1.trans hrw) hm1 hm2
  · refine ⟨fun _ _ => rfl, rfl, rfl, rfl, by simp, ?_, ?_, ?_⟩
    · intro k hk ho
      refine set_other fun e => ho ⟨x, _, l, hx, rfl, hl, e.symm⟩
    · rintro k ⟨y, b, m, hy, hrw, hm, rfl⟩
      by_cases e : y = x
      · subst e; exact .inl ⟨y, _, m, hx, rfl, hm, rfl⟩
      · rw [Heap.set_ne _ _ e] at hy; exact .inl (Has.own hf ⟨y, b, m, hy, hrw, hm, rfl⟩)
    · intro y hy h2
      by_cases e : y = x
      · subst e; rw [hx]; simp
      · rwa [Heap.set_ne _ _ e] at h2

theorem All2.set {α γ : Type} {R : α → γ → Prop} {a : α} {b : γ} (hab : R a b) : ∀ {l : List α} {m : List γ} (i : Nat), All2 R l m → All2 R (l.set i a) (m.set i b)
  | [], [], _, _ => trivial
  | _ :: _, _ :: _, 0, h => ⟨hab, h.2⟩
  | _ :: _, _ :: _, i + 1, h => ⟨h.1, All2.set hab i h.2⟩
  | [], _ :: _, _, h => h.elim
  | _ :: _, [], _, h => h.elim

theorem mapUpdate_sound {t : TypeId} {n : Nat} {β : Names} {H H' : Heap} {w : World} (hs : Sat β H w) (hf : ∀ x, n ≤ x → β x = none) {x key v u q p : Value}
    (hx : VT β x u) (hk : VT β key q) (hv : VA β v p) (h : cMapUpdate P t H x key v = some H') :
    ∃ w', (Instr.mapUpdate t u q p).run P w = .ok () w' ∧ Sat β H' w' ∧ Grow n β H w β H' w' := by
  unfold cMapUpdate at h
  split at h
  case h_2 => simp at h
  case h_1 T hT =>
    split at h
    case h_2 => simp at h
    case h_1 kt et hTd =>
      split at h
      case h_2 => simp at h
      case h_1 K k a r hK =>
        split at h
        case h_2 => simp at h
        case h_1 kk es hKd hH =>
          have hvc : VC β v p ∧ (∃ es', mapPut k a v es = some es' ∧ H.set r (.map es') = H') := by
            split at h
            · simp at h
            · simp at h
            · rename_i hn1 hn2
              split at h
              · rename_i es' he
                refine ⟨?_, es', he, Option.some.inj h⟩
                cases v <;> first | exact hv | exact (hn1 _ rfl).elim | exact (hn2 _ rfl).elim
              · simp at h
          obtain ⟨hvc, es', hput, rfl⟩ := hvc
          obtain ⟨d, ii, zz, hd, hii, hzz, f1, f2, f3, f4, f5⟩ := ti_some hT
          obtain ⟨d', i', z', hd', hi', hz', e1', e2', e3', e4', _⟩ := ti_some hK
          have hdm := TD.of_map (f1.symm.trans hTd)
          have hdk := TD.of_int' (e1'.symm.trans hKd)
          subst hdm; subst hdk
          obtain ⟨l, hl, rfl⟩ := map_inv hx
          obtain ⟨l', arr, clk, hl', hc, hes⟩ := hs.map hH
          rw [hl] at hl'
          obtain rfl := Option.some.inj hl'
          have hq : q = .int k a := by have : Value.int k a = q := hk; exact this.symm
          subst hq
          unfold mapPut at hput
          split at hput
          case h_3 => simp at hput
          case h_1 j v' hfd =>
            obtain rfl := Option.some.inj hput
            obtain ⟨r', h1, h2⟩ := run_find_int (P := P) hd' hes hfd w
            obtain ⟨j', u, rfl, rfl, hu⟩ : ∃ j' u, r' = some (j', u) ∧ j = j' ∧ VC β v' u := by
              cases r' with
              | none => exact h2.elim
              | some p => exact ⟨p.1, p.2, rfl, h2.1, h2.2⟩
            obtain ⟨_, hkey⟩ := find_key hfd
            rw [Nat.sub_zero] at hkey
            cases hje : es[j]? with
            | none => rw [hje] at hkey; simp at hkey
            | some e0 =>
              rw [hje] at hkey
              simp at hkey
              obtain ⟨e, hae, heR⟩ := hes.get j e0 hje
              have hae' : arr[j]? = some e := by simpa using hae
              have hek : e.key = .int k a := by have := heR.1; rw [hkey] at this; exact (show Value.int k a = e.key from this).symm
              have hstay : (Instr.keyThatStays (.int k a) (.int k a)).run P w = .ok (.int k a) w := by simp [Instr.keyThatStays, Instr.sameBits]
              have hall : All2 (EntRel β) (es.set j (.int k a, v)) (arr.modify j fun e => { e with key := .int k a, val := p }).toList := by
                have e1 : (arr.modify j fun e => { e with key := .int k a, val := p }).toList = arr.toList.set j { e with key := .int k a, val := p } := by
                  refine List.ext_getElem? fun i => ?_
                  simp only [Array.getElem?_toList, Array.getElem?_modify, List.getElem?_set, Array.length_toList]
                  by_cases hij : j = i
                  · subst hij
                    have hlt : j < arr.size := (Array.getElem?_eq_some_iff.mp hae').1
                    have hje : arr[j] = e := by simpa [hlt] using hae'
                    simp [hlt, hje]
                  · simp [hij]
                rw [e1]
                exact All2.set ⟨rfl, hvc⟩ j hes
              obtain ⟨g1, g2⟩ := write_map (arr' := arr.modify j fun e => { e with key := .int k a, val := p }) (clk' := clk) hs hH hl hc hall n hf
              refine ⟨_, ?_, g1, g2⟩
              simp [Instr.mapUpdate, run_underlying hd, MapKept.run_getObj_map hc, run_check_int hd', h1, hae', hek, hstay, MapKept.run_setObj_map _ hc]
          case h_2 hfd =>
            obtain rfl := Option.some.inj hput
            obtain ⟨r', h1, h2⟩ := run_find_int (P := P) hd' hes hfd w
            obtain rfl : r' = none := by
              cases r' with
              | none => rfl
              | some p => exact h2.elim
            have hall : All2 (EntRel β) (es ++ [(.int k a, v)]) (arr.push { key := .int k a, val := p, born := clk }).toList := by
              rw [Array.toList_push]
              exact All2.append hes ⟨⟨rfl, hvc⟩, trivial⟩
            obtain ⟨g1, g2⟩ := write_map (arr' := arr.push { key := .int k a, val := p, born := clk }) (clk' := clk + 1) hs hH hl hc hall n hf
            refine ⟨_, ?_, g1, g2⟩
            simp [Instr.mapUpdate, run_underlying hd, MapKept.run_getObj_map hc, run_check_int hd', h1, MapKept.run_setObj_map _ hc]

end Go.Sep
