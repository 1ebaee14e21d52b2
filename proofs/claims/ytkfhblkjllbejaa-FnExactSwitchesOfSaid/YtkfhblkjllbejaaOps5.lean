/- Values built out of parts; slices made, cut, appended to. -/
import Derived.Test.YtkfhblkjllbejaaOps4
namespace Go.Sep
open Go
set_option linter.unusedVariables false
set_option linter.unusedSimpArgs false

variable {P : Program}

/-! ### build -/

def fillC (P : Program) (place : Nat → Option (Nat × Nat)) (cells : List Value) : List (Nat × Value) → Option (List Value)
  | [] => some cells
  | (i, v) :: rest => match place i with
    | none => none
    | some (off, size) => if v.cells.size = size ∧ off + size ≤ cells.length then fillC P place (putC cells off v.cells.toList) rest else none

theorem foldl_size (off : Nat) : ∀ (us : List Value) (j0 : Nat) (c : Array Value), ((us.zipIdx j0).foldl (fun cs (x : Value × Nat) => cs.setIfInBounds (off + x.2) x.1) c).size = c.size
  | [], _, _ => rfl
  | u :: us, j0, c => by
    rw [List.zipIdx_cons, List.foldl_cons, foldl_size off us (j0 + 1)]
    simp

theorem foldl_get (off : Nat) : ∀ (us : List Value) (j0 : Nat) (c : Array Value) (i : Nat), off + j0 + us.length ≤ c.size →
    ((us.zipIdx j0).foldl (fun cs (x : Value × Nat) => cs.setIfInBounds (off + x.2) x.1) c)[i]? =
      if off + j0 ≤ i ∧ i < off + j0 + us.length then us[i - (off + j0)]? else c[i]?
  | [], j0, c, i, _ => by
    rw [if_neg (by simp)]; rfl
  | u :: us, j0, c, i, h => by
    rw [List.zipIdx_cons, List.foldl_cons]
    simp at h
    rw [foldl_get off us (j0 + 1) _ i (by simp; omega)]
    simp only [List.length_cons]
    by_cases h1 : i = off + j0
    · subst h1
      rw [if_neg (by omega), if_pos (by omega)]
      rw [Array.getElem?_setIfInBounds]
      simp only [Nat.sub_self, List.getElem?_cons_zero]
      rw [if_pos trivial, if_pos (by omega)]
    · by_cases h2 : off + j0 ≤ i ∧ i < off + j0 + (us.length + 1)
      · rw [if_pos h2, if_pos (by omega)]
        rw [show i - (off + j0) = (i - (off + (j0 + 1))) + 1 by omega]
        simp
      · rw [if_neg h2, if_neg (by omega)]
        rw [Array.getElem?_setIfInBounds_ne (by omega)]

theorem fill_sound {β : Names} {pc pm : Nat → Option (Nat × Nat)} (hp : ∀ i q, pc i = some q → pm i = some q) : ∀ (parts : List (Nat × Value)) (parts' : List (Nat × Value)) (cs : List Value) (c : Array Value) (r : List Value),
    All2 (fun (a b : Nat × Value) => a.1 = b.1 ∧ VA β a.2 b.2) parts parts' → All2 (VC β) cs c.toList → fillC P pc cs parts = some r →
    ∃ r', Instr.fill pm c parts' = some r' ∧ All2 (VC β) r r'.toList
  | [], [], cs, c, r, _, hc, h => by simp [fillC] at h; subst h; exact ⟨c, rfl, hc⟩
  | [], _ :: _, _, _, _, hh, _, _ => hh.elim
  | _ :: _, [], _, _, _, hh, _, _ => hh.elim
  | (i, v) :: parts, (i', v') :: parts', cs, c, r, hh, hc, h => by
    obtain ⟨⟨rfl, hv⟩, hrest⟩ := hh
    simp only [fillC] at h
    split at h
    · simp at h
    · rename_i off size hpl
      split at h
      · rename_i hk
        obtain ⟨hk1, hk2⟩ := hk
        have hcells := hv.cells
        have hsz : v'.cells.size = size := by have := hcells.length; simp at this; omega
        have hcl : cs.length = c.size := by have := hc.length; simpa using this
        simp only [Instr.fill, hp _ _ hpl]
        rw [if_neg (by simp [hsz]; omega)]
        refine fill_sound hp parts parts' _ _ r hrest ?_ h
        have hfit : off + v.cells.toList.length ≤ cs.length := by simp; omega
        rw [putC_eq hfit]
        have hfold : (v'.cells.zipIdx.foldl (fun cs (x : Value × Nat) => cs.setIfInBounds (off + x.2) x.1) c) = ((v'.cells.toList.zipIdx 0).foldl (fun cs (x : Value × Nat) => cs.setIfInBounds (off + x.2) x.1) c) := by
          rw [← Array.foldl_toList]; simp
        rw [hfold]
        refine All2.of_get ?_ ?_
        · simp [foldl_size]; omega
        · intro j u hj
          rw [show ((List.foldl (fun (cs : Array Value) (x : Value × Nat) => cs.setIfInBounds (off + x.2) x.1) c (v'.cells.toList.zipIdx 0)).toList[j]?) = (List.foldl (fun (cs : Array Value) (x : Value × Nat) => cs.setIfInBounds (off + x.2) x.1) c (v'.cells.toList.zipIdx 0))[j]? by simp]
          rw [foldl_get off _ 0 c j (by simp; omega)]
          have hcs1 : (cs.take off).length = off := by simp; omega
          have hvl : v.cells.toList.length = size := by simp; omega
          by_cases h1 : j < off
          · rw [List.append_assoc, List.getElem?_append_left (by omega), List.getElem?_take, if_pos h1] at hj
            rw [if_neg (by omega)]
            obtain ⟨b, hb, hbv⟩ := hc.get _ _ hj
            exact ⟨b, by simpa using hb, hbv⟩
          · by_cases h2 : j < off + size
            · rw [List.append_assoc, List.getElem?_append_right (by omega), List.getElem?_append_left (by omega), hcs1] at hj
              rw [if_pos (by simp; omega)]
              obtain ⟨b, hb, hbv⟩ := hcells.get _ _ hj
              exact ⟨b, by simpa using hb, hbv⟩
            · rw [List.getElem?_append_right (by simp; omega), List.getElem?_drop] at hj
              simp only [List.length_append, hcs1, hvl] at hj
              rw [show off + size + (j - (off + size)) = j by omega] at hj
              rw [if_neg (by simp; omega)]
              obtain ⟨b, hb, hbv⟩ := hc.get _ _ hj
              exact ⟨b, by simpa using hb, hbv⟩
      · simp at h

/-- The places of a struct's fields, of an array's elements. -/
def placesC (P : Program) (T : TI) : Nat → Option (Nat × Nat) :=
  match T.desc with
  | .struct fs => fun i => match fs[i]? with
    | some (off, ft) => (ti P ft).map fun F => (off, F.size)
    | none => none
  | .array _ e => fun i => (ti P e).map fun E => (i * E.size, E.size)
  | _ => fun _ => none

def fieldsOk (P : Program) (T : TI) : Bool :=
  match T.desc with
  | .struct fs => fs.all fun f => (ti P f.2).isSome
  | .array _ e => (ti P e).isSome
  | _ => false

def cBuild (P : Program) (t : TypeId) (parts : List (Nat × Value)) : Option Value :=
  match ti P t with
  | some T => if T.zero.all konst0 ∧ fieldsOk P T then (fillC P (placesC P T) T.zero parts).map fun cs => .agg cs.toArray else none
  | none => none

theorem run_places (w : World) : ∀ (gs : List Field), (gs.map (fun f => (f.offset, f.type))).all (fun f => (ti P f.2).isSome) = true →
    ∃ ps : List (Nat × Nat), (gs.mapM (fun f => Prod.mk f.offset <$> sizeOf f.type : Field → Sem (Nat × Nat))).run P w = .ok ps w ∧
      ∀ (i : Nat) (g : Field), gs[i]? = some g → ∃ F, ti P g.type = some F ∧ ps[i]? = some (g.offset, F.size)
  | [], _ => ⟨[], by simp, by simp⟩
  | g :: gs, h => by
    simp at h
    obtain ⟨h1, h2⟩ := h
    obtain ⟨F, hF⟩ := Option.isSome_iff_exists.mp h1
    obtain ⟨d, ii, z, hd, hii, hz, e1, e2, e3, e4, e5⟩ := ti_some hF
    obtain ⟨ps, hps, hall⟩ := run_places w gs (by simpa using h2)
    refine ⟨(g.offset, F.size) :: ps, ?_, ?_⟩
    · simp [List.mapM_cons, run_size hii, hps, e2]
    · intro i q hq
      cases i with
      | zero => simp at hq; subst hq; exact ⟨F, hF, by simp⟩
      | succ i => simp at hq; obtain ⟨F', h3, h4⟩ := hall i q hq; exact ⟨F', h3, by simpa using h4⟩

theorem build_sound {t : TypeId} {β : Names} {w : World} {parts parts' : List (Nat × Value)} {v : Value} (hp : All2 (fun (a b : Nat × Value) => a.1 = b.1 ∧ VA β a.2 b.2) parts parts')
    (h : cBuild P t parts = some v) : Pure P β w (Instr.build t parts'.toArray) v := by
  unfold cBuild at h
  split at h
  case h_2 => simp at h
  case h_1 T hT =>
    split at h
    case isFalse => simp at h
    case isTrue hk =>
      obtain ⟨hk1, hk2⟩ := hk
      obtain ⟨d, ii, z, hd, hii, hz, e1, e2, e3, e4, e5⟩ := ti_some hT
      simp only [Option.map_eq_some_iff] at h
      obtain ⟨cs, hcs, rfl⟩ := h
      have hzero : All2 (VC β) T.zero z.cells.toList := by rw [← e4]; exact konst0_All2 hk1
      cases hdd : T.desc <;> simp only [fieldsOk, hdd] at hk2 <;> first | (simp at hk2; done) | skip
      case struct fs =>
        obtain ⟨gs, rfl, rfl⟩ := TD.of_struct (e1.symm.trans hdd)
        obtain ⟨ps, hps, hall⟩ := run_places w gs.toList hk2
        obtain ⟨r', hr', hrv⟩ := fill_sound (P := P) (β := β) (pc := placesC P T) (pm := fun x => ps[x]?) (by
          intro i q hq
          simp only [placesC, hdd] at hq
          split at hq
          · rename_i off ft hff
            simp only [List.getElem?_map, Option.map_eq_some_iff] at hff
            obtain ⟨g, hg, hge⟩ := hff
            injection hge with hoff hft
            subst hoff; subst hft
            obtain ⟨F, hF, hps⟩ := hall i g hg
            simp [hF] at hq
            subst hq
            exact hps
          · simp at hq) parts parts' T.zero z.cells cs hp hzero hcs
        refine ⟨.agg r', ?_, ⟨r', rfl, by simpa using hrv⟩⟩
        have hps' : (gs.mapM (fun f => Prod.mk f.offset <$> sizeOf f.type : Field → Sem (Nat × Nat))).run P w = .ok ps.toArray w := by
          rw [Array.mapM_eq_mapM_toList]
          simp [hps]
        simp [Instr.build, run_zero hii hz, run_underlying hd, hps', hr']
      case array n e =>
        have := TD.of_array (e1.symm.trans hdd)
        subst this
        obtain ⟨E, hE⟩ := Option.isSome_iff_exists.mp hk2
        obtain ⟨d', i', z', hd', hi', hz', e1', e2', e3', e4', _⟩ := ti_some hE
        obtain ⟨r', hr', hrv⟩ := fill_sound (P := P) (β := β) (pc := placesC P T) (pm := fun i => some (i * i'.size, i'.size)) (by
          intro i q hq
          simp [placesC, hdd, hE] at hq
          subst hq
          simp [e2']) parts parts' T.zero z.cells cs hp hzero hcs
        refine ⟨.agg r', ?_, ⟨r', rfl, by simpa using hrv⟩⟩
        simp [Instr.build, run_zero hii hz, run_underlying hd, run_size hi', hr']

/-! ### Slices made -/

theorem zeros_length (z : List Value) : ∀ n, (zeros z n).length = n * z.length
  | 0 => by simp [zeros]
  | n + 1 => by simp [zeros, zeros_length z n, Nat.succ_mul]; omega

theorem zeros_get (z : List Value) (hz : 0 < z.length) : ∀ (n i : Nat), i < n * z.length → (zeros z n)[i]? = z[i % z.length]?
  | 0, i, h => by simp at h
  | n + 1, i, h => by
    rw [Nat.succ_mul] at h
    simp only [zeros]
    by_cases hi : i < z.length
    · rw [List.getElem?_append_left hi, Nat.mod_eq_of_lt hi]
    · rw [List.getElem?_append_right (by omega), zeros_get z hz n _ (by omega)]
      congr 1
      have : i = (i - z.length) + z.length := by omega
      conv => rhs; rw [this, Nat.add_mod_right]

/-- A new slice of `n` elements. -/
def cMake (P : Program) (t : TypeId) (H : Heap) (n : Nat) : Value → Value → Option (Value × Heap × Nat)
  | .int .i64 a, .int .i64 b => match ti P t with
    | some T => match T.desc with
      | .slice e => match ti P e with
        | some E => if a = b ∧ 0 ≤ a ∧ a ≤ 2 ^ 30 ∧ E.bytes ≤ 2 ^ 16 ∧ E.zero.length = E.size ∧ E.zero.all konst0 then
            some (.slice (some ⟨n, 0, none⟩) a.toNat E.size, H.set n (.cells false (zeros E.zero a.toNat)), n + 1) else none
        | none => none
      | _ => none
    | none => none
  | _, _ => none

theorem zeroRow_get {β : Names} {z : Array Value} (hz : z.toList.all konst0 = true) (n : Nat) : ∀ (i : Nat) (v : Value), (zeros z.toList n)[i]? = some v →
    ∃ u, (((Array.range (n * z.size)).map (z[· % z.size]!)))[i]? = some u ∧ VC β v u := by
  intro i v hi
  have hlt : i < n * z.size := by
    have := (List.getElem?_eq_some_iff.mp hi).1
    rwa [zeros_length, Array.length_toList] at this
  have hpos : 0 < z.size := Nat.pos_of_ne_zero fun e => by simp [e] at hlt
  rw [zeros_get _ (by simpa using hpos) _ _ (by simpa using hlt)] at hi
  simp only [Array.length_toList] at hi
  have hmod : i % z.size < z.size := Nat.mod_lt _ hpos
  have hzi : z[i % z.size]? = some v := by simpa using hi
  have hv : v = z[i % z.size]! := by
    rw [getElem!_pos z _ hmod]
    rw [Array.getElem?_eq_getElem hmod] at hzi
    exact (Option.some.inj hzi).symm
  refine ⟨z[i % z.size]!, ?_, ?_⟩
  · simp [hlt]
  · rw [← hv]
    refine konst0_VC ?_
    have hm : v ∈ z.toList := List.mem_of_getElem? (show z.toList[i % z.size]? = some v by simpa using hzi)
    exact List.all_eq_true.mp hz v hm

theorem make_sound {t : TypeId} {n : Nat} {β : Names} {H H' : Heap} {w : World} (hs : Sat β H w) (hf : ∀ x, n ≤ x → β x = none) {x y u r v : Value} {n' : Nat}
    (hx : VT β x u) (hy : VT β y r) (h : cMake P t H n x y = some (v, H', n')) :
    ∃ q w' β', (Instr.makeSlice t u r).run P w = .ok q w' ∧ VT β' v q ∧ Sat β' H' w' ∧ n ≤ n' ∧ (∀ x, n' ≤ x → β' x = none) ∧ Grow n β H w β' H' w' := by
  obtain ⟨a, b, rfl, rfl⟩ : ∃ a b, x = .int .i64 a ∧ y = .int .i64 b := by
    unfold cMake at h
    split at h
    · exact ⟨_, _, rfl, rfl⟩
    · simp at h
  obtain rfl := int_inv hx
  obtain rfl := int_inv hy
  simp only [cMake] at h
  split at h
  case h_2 => simp at h
  case h_1 T hT =>
    split at h
    case h_2 => simp at h
    case h_1 e hTe =>
      split at h
      case h_2 => simp at h
      case h_1 E hE =>
        split at h
        case isFalse => simp at h
        case isTrue hk =>
          obtain ⟨rfl, h0, h1, h2, h3, h4⟩ := hk
          simp only [Option.some.injEq, Prod.mk.injEq] at h
          obtain ⟨rfl, rfl, rfl⟩ := h
          obtain ⟨d, ii, z, hd, hii, hz, e1, e2, e3, e4, e5⟩ := ti_some hT
          obtain ⟨d', i', z', hd', hi', hz', e1', e2', e3', e4', _⟩ := ti_some hE
          have := TD.of_slice (e1.symm.trans hTe)
          subst this
          have hwrap : IntKind.wrap .i64 a = a := by
            simp only [IntKind.wrap, IntKind.bits, IntKind.signed]
            have : a % 2 ^ 64 = a := Int.emod_eq_of_lt h0 (by omega)
            simp only [this]
            rw [if_neg (by simp; omega)]
          have hzs : z'.cells.size = i'.size := by rw [e4', e2'] at h3; simpa using h3
          let c : Array Value := (Array.range (a.toNat * z'.cells.size)).map (z'.cells[· % z'.cells.size]!)
          have hcs : c.size = a.toNat * i'.size := by simp [c, hzs]
          obtain ⟨β', hrun, hn, hle, g1, g2, g3⟩ := newRow_sound (P := P) hs hf (cs := zeros E.zero a.toNat) (c := c) e
            (by rw [zeros_length, h3, e2', hcs]; exact Nat.le_refl _)
            (fun i v hi => by rw [e4'] at hi; exact zeroRow_get (by rw [← e4']; exact h4) _ i v hi)
          refine ⟨.slice (some ⟨w.heap.size, 0, none⟩) a.toNat a.toNat, w.alloc (.cells c e), β', ?_, ?_, g1, Nat.le_succ _, g2, g3⟩
          · have hbytes : (i'.bytes : Int) * a ≤ 2 ^ 46 := by
              rw [e3'] at h2
              have : (i'.bytes : Int) * a ≤ (2 ^ 16 : Int) * 2 ^ 30 := Int.mul_le_mul (by exact_mod_cast h2) h1 h0 (by decide)
              omega
            have hroom : ¬ (a.toNat * i'.bytes > roomBytes) := by
              have : ((a.toNat * i'.bytes : Nat) : Int) ≤ 2 ^ 46 := by push_cast; rw [Int.toNat_of_nonneg h0, Int.mul_comm]; exact hbytes
              unfold roomBytes
              omega
            have htl : (decide (a < 0) || decide ((i'.bytes : Int) * a > 2 ^ 48)) = false := by simp; omega
            have hc : ((Array.range (a.toNat * i'.size)).map ((if a.toNat * i'.size = 0 then #[] else z'.cells)[· % (if a.toNat * i'.size = 0 then (#[] : Array Value) else z'.cells).size]!)) = c := by
              by_cases h0 : a.toNat * i'.size = 0
              · simp [c, hzs, h0]
              · simp only [c, hzs, if_neg h0]
            simp only [Instr.makeSlice, Sem.run_bind, run_underlying hd, Result.andThen_ok, asInt, asIntOf, Sem.run_pure, run_info hi', hwrap, askRoom]
            simp only [htl, Bool.false_eq_true, false_or, Bool.or_false, decide_false]
            rw [if_neg (by simp; omega), if_neg hroom]
            simp only [Sem.run_pure, Result.andThen_ok, run_size hi', Sem.run_bind]
            by_cases h00 : a.toNat * i'.size = 0
            · simp only [h00, if_true] at hc ⊢
              simp only [Sem.run_bind, Sem.run_pure, Result.andThen_ok, hc, hrun]
            · simp only [if_neg h00] at hc ⊢
              simp only [Sem.run_bind, run_zero hi' hz', Sem.run_pure, Result.andThen_ok, hc, hrun]
          · exact ⟨⟨w.heap.size, 0, c.size⟩, a.toNat, hn, rfl, Nat.le_refl _, by simp [hcs, e2'], by simp⟩

end Go.Sep
