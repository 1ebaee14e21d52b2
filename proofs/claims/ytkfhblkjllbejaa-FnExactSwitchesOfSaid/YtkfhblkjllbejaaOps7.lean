/- append. -/
import Derived.Test.YtkfhblkjllbejaaOps6
namespace Go.Sep
open Go
set_option linter.unusedVariables false
set_option linter.unusedSimpArgs false

variable {P : Program}

theorem Sat.same {β : Names} {H : Heap} {w w' : World} (h : Sat β H w) (e : w'.heap = w.heap) : Sat β H w' :=
  ⟨fun x b hx => let ⟨l, hl, hk⟩ := h.ok x b hx; ⟨l, hl, hk.world (by rw [e])⟩, h.sep⟩

/-- The cells that are appended. -/
def cTake (H : Heap) (sz : Nat) : Value → Option (Nat × List Value)
  | .slice _ 0 _ => some (0, [])
  | .slice (some b) m _ => match H b.block with
    | some (.cells _ cs) => if b.off + m * sz ≤ cs.length then some (m, (cs.drop b.off).take (m * sz)) else none
    | _ => none
  | _ => none

def cAppend (P : Program) (ts : Array TypeId) (H : Heap) (n : Nat) (s x : Value) : Option (Value × Heap × Nat) :=
  match ts[0]?, ts[1]? with
  | some t, some t1 => match ti P t, ti P t1 with
    | some T, some T1 => match T.desc, T1.desc with
      | .slice e, .slice _ => match ti P e with
        | some E => if E.bytes ≤ 2 ^ 16 ∧ E.zero.length = E.size ∧ 0 < E.size then match cTake H E.size x with
            | some (m, xs) => if m = 0 then match s with
                | .slice _ _ _ => some (s, H, n)
                | _ => none
              else match s with
                | .slice (some p) k es => match H p.block with
                  | some (.cells false cs) => if es = E.size ∧ p.off = 0 ∧ cs.length = k * es ∧ k + m ≤ 2 ^ 24 then
                      some (.slice (some ⟨n, 0, none⟩) (k + m) es, (H.del p.block).set n (.cells false (cs ++ xs)), n + 1) else none
                  | _ => none
                | .slice none _ 0 | .slice none _ 1 => if m ≤ 2 ^ 24 then some (.slice (some ⟨n, 0, none⟩) m E.size, H.set n (.cells false xs), n + 1) else none
                | _ => none
            | none => none
          else none
        | none => none
      | _, _ => none
    | _, _ => none
  | _, _ => none

theorem growBy_le (n : Nat) : ∀ (r c : Nat), Builtin.growBy n r c ≤ (c + 768) * 2 ^ r
  | 0, c => by simp [Builtin.growBy]
  | r + 1, c => by
    simp only [Builtin.growBy]
    split
    · calc c ≤ (c + 768) * 1 := by omega
        _ ≤ (c + 768) * 2 ^ (r + 1) := Nat.mul_le_mul_left _ (Nat.one_le_two_pow)
    · refine Nat.le_trans (growBy_le n r _) ?_
      rw [Nat.pow_succ, Nat.mul_comm (2 ^ r) 2, ← Nat.mul_assoc]
      exact Nat.mul_le_mul_right _ (by omega)

theorem nextcap_le {need cap : Nat} (h : cap < need) (hn : need ≤ 2 ^ 24) : Builtin.nextslicecap need cap ≤ 2 ^ 29 := by
  unfold Builtin.nextslicecap
  split
  · omega
  · split
    · omega
    · refine Nat.le_trans (growBy_le _ _ _) ?_
      have : cap + 768 ≤ 2 ^ 24 + 768 := by omega
      calc (cap + 768) * 2 ^ 4 ≤ (2 ^ 24 + 768) * 2 ^ 4 := Nat.mul_le_mul_right _ this
        _ ≤ 2 ^ 29 := by decide

/-- The slice that is appended, in the machine. -/
theorem take_sound {n : Nat} {β : Names} {H : Heap} {w : World} (hs : Sat β H w) {sz : Nat} {x u : Value} {m : Nat} {xs : List Value} (hx : VT β x u) (h : cTake H sz x = some (m, xs)) :
    Builtin.lenOf u = pure m ∧ xs.length = m * sz ∧ ∃ us : List Value, us.length = m * sz ∧ All2 (VC β) xs us ∧
      ∀ w', w'.heap = w.heap → (Builtin.firstCells sz m u).run P w' = .ok us.toArray w' := by
  unfold cTake at h
  split at h
  · rename_i p es
    simp only [Option.some.injEq, Prod.mk.injEq] at h
    obtain ⟨rfl, rfl⟩ := h
    have : ∃ A c, u = .slice A 0 c := by
      cases p with
      | none => obtain ⟨_, ⟨_, rfl⟩ | ⟨_, A, rfl⟩ | ⟨_, A, c, rfl⟩⟩ := hx <;> exact ⟨_, _, rfl⟩
      | some p => obtain ⟨lc, c, _, _, _, _, rfl⟩ := hx; exact ⟨_, _, rfl⟩
    obtain ⟨A, c, rfl⟩ := this
    refine ⟨rfl, by simp, [], by simp, trivial, fun w' _ => ?_⟩
    cases A <;> simp [Builtin.firstCells, loadCells, loadCellsFrom]
  · rename_i b m0 es hm0
    split at h
    case h_2 => simp at h
    case h_1 ro cs hH =>
      split at h
      case isFalse => simp at h
      case isTrue hk =>
        simp only [Option.some.injEq, Prod.mk.injEq] at h
        obtain ⟨rfl, rfl⟩ := h
        obtain ⟨lc, c', hl, _, _, _, rfl⟩ := hx
        obtain ⟨l, c, el, fz, hl', hc, hsz, hlen, hv, _⟩ := hs.cells hH
        rw [hl] at hl'
        obtain rfl := Option.some.inj hl'
        refine ⟨rfl, by simp; omega, ?_⟩
        have hall : ∃ us : List Value, us.length = m0 * sz ∧ All2 (VC β) ((cs.drop b.off).take (m0 * sz)) us ∧ ∀ w' : World, w'.heap = w.heap → (loadCells ⟨lc.blk, lc.base + b.off, none⟩ (m0 * sz)).run P w' = .ok us.toArray w' := by
          obtain ⟨us, h1, h2, h3⟩ := read_stretch (P := P) (β := β) hc hv b.off (m0 * sz) hk
          refine ⟨us, h1, h2, fun w' hw' => ?_⟩
          obtain ⟨us', h1', h2', h3'⟩ := read_stretch (P := P) (β := β) (w := w') (by rw [hw']; exact hc) hv b.off (m0 * sz) hk
          have hcell : ∀ j, j < m0 * sz → w'.cell? ((⟨lc.blk, lc.base + b.off, none⟩ : Addr).add j) = some ((c[lc.base + b.off + j]?).getD undef) := by
            intro j hj
            have hlt : b.off + j < cs.length := by omega
            obtain ⟨u, hu, _⟩ := hv (b.off + j) cs[b.off + j] (List.getElem?_eq_getElem hlt)
            have e : lc.base + (b.off + j) = lc.base + b.off + j := by omega
            rw [e] at hu
            rw [addr_add]
            simp only [hu, Option.getD_some]
            simp [World.cell?, hw', hc, hu]
          have hcell0 : ∀ j, j < m0 * sz → w.cell? ((⟨lc.blk, lc.base + b.off, none⟩ : Addr).add j) = some ((c[lc.base + b.off + j]?).getD undef) := by
            intro j hj
            rw [← hcell j hj]
            simp [World.cell?, hw']
          have r1 := run_loadCells (P := P) w' _ _ _ hcell
          have r0 := run_loadCells (P := P) w _ _ _ hcell0
          rw [h3] at r0
          have := (Result.ok.inj r0).1
          rw [r1, this]
        obtain ⟨us, h1, h2, h3⟩ := hall
        exact ⟨us, h1, h2, fun w' hw' => by simp only [Builtin.firstCells]; exact h3 w' hw'⟩
  · simp at h

theorem zeroCells_size (z : Array Value) (k : Nat) : (Builtin.zeroCells z k).size = k * z.size := by simp [Builtin.zeroCells]

theorem append_sound {ts : Array TypeId} {ty : TypeId} {n : Nat} {β : Names} {H H' : Heap} {w : World} (hs : Sat β H w) (hf : ∀ x, n ≤ x → β x = none) {s x u r v : Value} {n' : Nat}
    (hx : VT β s u) (hy : VT β x r) (h : cAppend P ts H n s x = some (v, H', n')) :
    ∃ q w' β', (Builtin.append_ ts ty #[u, r]).run P w = .ok q w' ∧ VT β' v q ∧ Sat β' H' w' ∧ n ≤ n' ∧ (∀ x, n' ≤ x → β' x = none) ∧ Grow n β H w β' H' w' := by
  unfold cAppend at h
  split at h
  case h_2 => simp at h
  case h_1 t t1 ht0 ht1 =>
    split at h
    case h_2 => simp at h
    case h_1 T T1 hT hT1 =>
      split at h
      case h_2 => simp at h
      case h_1 e e1 hTe hT1e =>
        split at h
        case h_2 => simp at h
        case h_1 E hE =>
          split at h
          case isFalse => simp at h
          case isTrue hk =>
            obtain ⟨k1, k2, k3⟩ := hk
            split at h
            case h_2 => simp at h
            case h_1 m xs hxs =>
              obtain ⟨d, ii, z, hd, hii, hz, f1, f2, f3, f4, f5⟩ := ti_some hT
              obtain ⟨d2, ii2, z2, hd2, hii2, hz2, g1, g2, g3, g4, g5⟩ := ti_some hT1
              obtain ⟨d', i', z', hd', hi', hz', e1', e2', e3', e4', _⟩ := ti_some hE
              have := TD.of_slice (f1.symm.trans hTe)
              subst this
              have := TD.of_slice (g1.symm.trans hT1e)
              subst this
              have hzs : z'.cells.size = i'.size := by rw [e4', e2'] at k2; simpa using k2
              obtain ⟨hlen, hxl, us, husl, hus, hfc⟩ := take_sound (P := P) (n := n) hs hy hxs
              rw [e2'] at husl hxl hfc
              have grows : ∀ (A : Option Addr) (k c : Nat) (os : List Value), c < k + m → k + m ≤ 2 ^ 24 → os.length = k * i'.size → (∀ w' : World, w'.heap = w.heap → (Builtin.firstCells i'.size k (.slice A k c)).run P w' = .ok os.toArray w') →
                  ∃ cap el, k + m ≤ cap ∧ (Builtin.append_ ts ty #[.slice A k c, r]).run P w = .ok (.slice (some ⟨w.heap.size, 0, none⟩) (k + m) cap) (w.drew.alloc (.cells (os.toArray ++ us.toArray ++ Builtin.zeroCells z'.cells (cap - (k + m))) el)) := by
                intro A k c os hlt hle hos hold
                let cap := (Question.appendCap (k + m) c e).cut (w.tape w.drawn (.appendCap (k + m) c e))
                have hcap : k + m ≤ cap := by simp only [cap, Question.cut]; omega
                refine ⟨cap, e, hcap, ?_⟩
                have h1 : ¬ (k + m ≤ c) := by omega
                have h2 : ¬ (((k + m : Nat) : Int) > IntKind.i64.max) := by
                  have : IntKind.i64.max = 2 ^ 63 - 1 := rfl
                  rw [this]; omega
                have h3 : ¬ (Builtin.nextslicecap (k + m) c * i'.bytes > 2 ^ 48) := by
                  have a1 := nextcap_le hlt hle
                  have a2 : Builtin.nextslicecap (k + m) c * i'.bytes ≤ 2 ^ 29 * 2 ^ 16 := Nat.mul_le_mul a1 (by rw [← e3']; exact k1)
                  have : 2 ^ 29 * 2 ^ 16 ≤ 2 ^ 48 := by decide
                  omega
                have hch : (choose (.appendCap (k + m) c e)).run P w = .ok cap w.drew := by
                  rfl
                have har : ∀ b w', (askRoom b).run P w' = .ok () w' := by
                  intro b w'
                  unfold askRoom
                  split <;> rfl
                have hnr : ∀ c' w', (newRow e c').run P w' = .ok ⟨w'.heap.size, 0, none⟩ (w'.alloc (.cells c' e)) := fun _ _ => rfl
                have ho := hold w.drew rfl
                have hn := hfc w.drew rfl
                simp only [Builtin.append_, ht0, ht1, Sem.run_bind, run_underlying hd, run_underlying hd2, run_size hi', Result.andThen_ok, List.getElem?_toArray, List.getElem?_cons_zero, List.getElem?_cons_succ,
                  Sem.run_pure, hlen, Bool.false_eq_true, if_false, Bool.not_false, if_true, false_or]
                rw [if_neg h1]
                simp only [Sem.run_bind, run_info hi', Result.andThen_ok]
                rw [if_neg (fun hh => h2 hh.1)]
                simp only [Sem.run_bind, run_info hi', Result.andThen_ok]
                rw [if_neg h3]
                simp only [Sem.run_bind, hch, Result.andThen_ok, run_info hi', har, ho, hn, Bool.not_false, if_true, run_zero hi' hz', hnr, Sem.run_pure]
                rfl
              -- a new block out of the old cells and the new ones
              have fresh : ∀ (A : Option Addr) (k c : Nat) (cs os : List Value), c < k + m → k + m ≤ 2 ^ 24 → os.length = k * i'.size → cs.length = k * i'.size → All2 (VC β) cs os →
                  (∀ w' : World, w'.heap = w.heap → (Builtin.firstCells i'.size k (.slice A k c)).run P w' = .ok os.toArray w') →
                  ∃ q w' β', (Builtin.append_ ts ty #[.slice A k c, r]).run P w = .ok q w' ∧ VT β' (.slice (some ⟨n, 0, none⟩) (k + m) i'.size) q ∧ Sat β' (H.set n (.cells false (cs ++ xs))) w' ∧
                    (∀ x, n + 1 ≤ x → β' x = none) ∧ Grow n β H w β' (H.set n (.cells false (cs ++ xs))) w' := by
                intro A k c cs os hlt hle hos hcs hco hold
                obtain ⟨cap, el, hcap, hrun⟩ := grows A k c os hlt hle hos hold
                have hsd : Sat β H w.drew := hs.same rfl
                have happ : All2 (VC β) (cs ++ xs) (os ++ us) := hco.append hus
                obtain ⟨β', _, hn, hle2, a1, a2, a3⟩ := newRow_sound (P := P) hsd hf (cs := cs ++ xs) (c := os.toArray ++ us.toArray ++ Builtin.zeroCells z'.cells (cap - (k + m))) el
                  (by simp; omega)
                  (fun i v hi => by
                    obtain ⟨u, hu, huv⟩ := happ.get i v hi
                    refine ⟨u, ?_, huv⟩
                    have hlt : i < (os ++ us).length := (List.getElem?_eq_some_iff.mp hu).1
                    rw [Array.getElem?_append_left (by simpa using hlt)]
                    simpa using hu)
                refine ⟨_, _, β', hrun, ⟨_, cap, hn, rfl, hcap, ?_, by simp⟩, a1, a2, ?_⟩
                · simp only [Array.size_append, List.size_toArray, zeroCells_size, hos, husl, hzs, Nat.zero_add]
                  have : k * i'.size + m * i'.size + (cap - (k + m)) * i'.size = cap * i'.size := by
                    rw [← Nat.add_mul, ← Nat.add_mul]; congr 1; omega
                  omega
                · exact ⟨a3.names, a3.os, a3.tape, a3.output, a3.size, a3.keep, a3.own, a3.dom⟩
              by_cases hm : m = 0
              · subst hm
                rw [if_pos rfl] at h
                split at h
                case h_2 => simp at h
                case h_1 p k es =>
                  simp only [Option.some.injEq, Prod.mk.injEq] at h
                  obtain ⟨rfl, rfl, rfl⟩ := h
                  have : ∃ A c, u = .slice A k c ∧ k ≤ c := by
                    cases p with
                    | none => obtain ⟨rfl, ⟨_, rfl⟩ | ⟨_, A, rfl⟩ | ⟨_, A, c, rfl⟩⟩ := hx <;> exact ⟨_, _, rfl, by omega⟩
                    | some p => obtain ⟨lc, c, _, _, hc, _, rfl⟩ := hx; exact ⟨_, _, rfl, hc⟩
                  obtain ⟨A, c, rfl, hkc⟩ := this
                  have hus0 : us = [] := List.length_eq_zero_iff.mp (by simpa using husl)
                  subst hus0
                  refine ⟨_, w, β, ?_, hx, hs, Nat.le_refl _, hf, Grow.refl _ _ hf⟩
                  simp only [Builtin.append_, ht0, ht1, Sem.run_bind, run_underlying hd, run_underlying hd2, run_size hi', Result.andThen_ok, List.getElem?_toArray, List.getElem?_cons_zero, List.getElem?_cons_succ,
                    Sem.run_pure, hlen, Bool.false_eq_true, if_false, Bool.not_false, if_true, false_or]
                  rw [if_pos (by omega)]
                  simp only [Sem.run_bind, hfc w rfl, Result.andThen_ok]
                  cases A <;> rfl
              · rw [if_neg hm] at h
                split at h
                case h_4 => simp at h
                case h_1 p k es =>
                  split at h
                  case h_2 => simp at h
                  case h_1 cs hH =>
                    split at h
                    case isFalse => simp at h
                    case isTrue hk =>
                      obtain ⟨c1, c2, c3, c4⟩ := hk
                      simp only [Option.some.injEq, Prod.mk.injEq] at h
                      obtain ⟨rfl, rfl, rfl⟩ := h
                      subst c1
                      rw [e2'] at c3 ⊢
                      obtain ⟨lc, c, hl, _, hkc, hfit, rfl⟩ := hx
                      obtain ⟨l, c0, el, fz, hl', hc0, hsz, hlen0, hv, hfz⟩ := hs.cells hH
                      rw [hl] at hl'
                      obtain rfl := Option.some.inj hl'
                      have := hfz rfl
                      subst this
                      rw [c2, e2'] at hfit
                      rw [c2]
                      have hxn : p.block ≠ n := fun e => by rw [e, hf n (Nat.le_refl _)] at hl; simp at hl
                      by_cases hroom : k + m ≤ c
                      · -- in its place
                        have hst := run_storeCells_at P lc.blk (lc.base + 0 + k * i'.size) el us 0 c0 w hc0 (by
                          have : (k + m) * i'.size ≤ c * i'.size := Nat.mul_le_mul_right _ hroom
                          rw [Nat.add_mul] at this
                          omega) hus.oneCell
                        have hfit2 : lc.base + (k * i'.size + m * i'.size) ≤ lc.size := by
                          have : (k + m) * i'.size ≤ c * i'.size := Nat.mul_le_mul_right _ hroom
                          rw [Nat.add_mul] at this
                          omega
                        obtain ⟨s1, s2⟩ := write_block hs hH hl (cs' := cs ++ xs) (c := (c0.toList.take (lc.base + 0 + k * i'.size + 0) ++ us ++ c0.toList.drop (lc.base + 0 + k * i'.size + 0 + us.length)).toArray)
                          (by simp; omega) (by simp; omega) (by
                            intro i v hi
                            have h1 : (c0.toList.take (lc.base + 0 + k * i'.size + 0)).length = lc.base + k * i'.size := by simp; omega
                            by_cases hik : i < k * i'.size
                            · rw [List.getElem?_append_left (by omega)] at hi
                              obtain ⟨u, hu, huv⟩ := hv i v hi
                              refine ⟨u, ?_, huv⟩
                              simp only [List.getElem?_toArray]
                              rw [List.append_assoc, List.getElem?_append_left (by omega), List.getElem?_take, if_pos (by omega)]
                              simpa using hu
                            · rw [List.getElem?_append_right (by omega), c3] at hi
                              obtain ⟨u, hu, huv⟩ := hus.get _ _ hi
                              have hlt := (List.getElem?_eq_some_iff.mp hu).1
                              refine ⟨u, ?_, huv⟩
                              simp only [List.getElem?_toArray]
                              rw [List.append_assoc, List.getElem?_append_right (by omega), List.getElem?_append_left (by omega), h1]
                              rw [show lc.base + i - (lc.base + k * i'.size) = i - k * i'.size by omega]
                              exact hu) n hf
                        obtain ⟨r1, r2, r3⟩ := rename_block hs hf hH hl s1 s2
                        refine ⟨.slice (some ⟨lc.blk, lc.base + 0, none⟩) (k + m) c, _, _, ?_, ?_, r1, Nat.le_succ _, r2, r3⟩
                        · simp only [Builtin.append_, ht0, ht1, Sem.run_bind, run_underlying hd, run_underlying hd2, run_size hi', Result.andThen_ok, List.getElem?_toArray, List.getElem?_cons_zero, List.getElem?_cons_succ,
                            Sem.run_pure, hlen, Bool.false_eq_true, if_false, Bool.not_false, if_true, false_or]
                          rw [if_pos hroom]
                          simp only [Sem.run_bind, hfc w rfl, Result.andThen_ok, addr_add, hst, Sem.run_pure]
                        · exact ⟨lc, c, Names.set_same _ _ _, rfl, hroom, by simp only []; omega, by simp⟩
                      · obtain ⟨os, o1, o2, o3⟩ := read_stretch (P := P) (β := β) hc0 hv 0 (k * i'.size) (by omega)
                        have hcs' : All2 (VC β) cs os := by rw [List.drop_zero, ← c3, List.take_length] at o2; exact o2
                        have hold : ∀ w' : World, w'.heap = w.heap → (Builtin.firstCells i'.size k (.slice (some ⟨lc.blk, lc.base + 0, none⟩) k c)).run P w' = .ok os.toArray w' := by
                          intro w' hw'
                          obtain ⟨os', o1', o2', o3'⟩ := read_stretch (P := P) (β := β) (w := w') (by rw [hw']; exact hc0) hv 0 (k * i'.size) (by omega)
                          have ex : ∀ w0 : World, w0.heap = w.heap → (loadCells ⟨lc.blk, lc.base + 0, none⟩ (k * i'.size)).run P w0 = .ok ((List.range (k * i'.size)).map fun j => (c0[lc.base + 0 + j]?).getD undef).toArray w0 := by
                            intro w0 hw0
                            refine run_loadCells (P := P) w0 _ _ _ fun j hj => ?_
                            have hlt : 0 + j < cs.length := by omega
                            obtain ⟨u, hu, _⟩ := hv (0 + j) cs[0 + j] (List.getElem?_eq_getElem hlt)
                            have e : lc.base + (0 + j) = lc.base + 0 + j := by omega
                            rw [e] at hu
                            rw [addr_add]
                            simp only [hu, Option.getD_some]
                            have hu' : c0[lc.base + j]? = some u := by simpa using hu
                            simp [World.cell?, hw0, hc0, hu']
                          have r0 := ex w rfl
                          rw [o3] at r0
                          have := (Result.ok.inj r0).1
                          simp only [Builtin.firstCells]
                          rw [ex w' hw', this]
                        obtain ⟨q, w', β', f1, f2, f3, f4, f5⟩ := fresh (some ⟨lc.blk, lc.base + 0, none⟩) k c cs os (by omega) c4 o1 c3 hcs' hold
                        have hsub : ((H.del p.block).set n (.cells false (cs ++ xs))).le (H.set n (.cells false (cs ++ xs))) := by
                          intro y b hy
                          by_cases e : y = n
                          · subst e; rw [Heap.set_same] at hy ⊢; exact hy
                          · rw [Heap.set_ne _ _ e] at hy ⊢
                            unfold Heap.del at hy
                            split at hy
                            · simp at hy
                            · exact hy
                        exact ⟨q, w', β', f1, f2, f3.le hsub, Nat.le_succ _, f4, f5.weaken (Heap.le.refl _) hsub⟩
                all_goals
                  split at h
                  case isFalse => simp at h
                  case isTrue hm24 =>
                    simp only [Option.some.injEq, Prod.mk.injEq] at h
                    obtain ⟨rfl, rfl, rfl⟩ := h
                    have hA : ∃ A, u = .slice A 0 0 := by
                      obtain ⟨rfl, ⟨_, rfl⟩ | ⟨_, A, rfl⟩ | ⟨h2, A, c, rfl⟩⟩ := hx
                      · exact ⟨_, rfl⟩
                      · exact ⟨_, rfl⟩
                      · simp at h2
                    obtain ⟨A, rfl⟩ := hA
                    obtain ⟨q, w', β', f1, f2, f3, f4, f5⟩ := fresh A 0 0 [] [] (by omega) (by omega) (by simp) (by simp) trivial (fun w' _ => by
                      cases A <;> simp [Builtin.firstCells, loadCells, loadCellsFrom])
                    rw [e2']
                    simp only [Nat.zero_add, List.nil_append] at f2 f3 f5
                    exact ⟨q, w', β', f1, f2, f3, Nat.le_succ _, f4, f5⟩

end Go.Sep
