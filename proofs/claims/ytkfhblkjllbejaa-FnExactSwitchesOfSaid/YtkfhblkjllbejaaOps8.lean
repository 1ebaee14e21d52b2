/- Each operation: clear of a slice of single cells. -/
import Derived.Test.YtkfhblkjllbejaaOps7
namespace Go.Sep
open Go
set_option linter.unusedVariables false
set_option linter.unusedSimpArgs false

variable {P : Program}

def cClear (P : Program) (tys : Array TypeId) (H : Heap) : Value → Option Heap
  | .slice (some a) k es => match tys[0]? with
    | some t => match ti P t with
      | some T => match T.desc with
        | .slice e => match ti P e, H a.block with
          | some E, some (.cells false cs) => match E.zero with
            | [z] => if E.size = 1 ∧ konst0 z = true ∧ a.off + k ≤ cs.length ∧ es = 1 then some (H.set a.block (.cells false (putC cs a.off (List.replicate k z)))) else none
            | _ => none
          | _, _ => none
        | _ => none
      | none => none
    | none => none
  | .slice none _ _ => match tys[0]? with
    | some t => match ti P t with
      | some _ => some H
      | none => none
    | none => none
  | _ => none

theorem zeroCells_one (z : Value) (k : Nat) : (Builtin.zeroCells #[z] k).toList = List.replicate k z := by
  refine List.ext_getElem (by simp [Builtin.zeroCells]) fun i h1 h2 => ?_
  simp [Builtin.zeroCells, Nat.mod_one]

theorem clear_sound {ts : Array TypeId} {ty : TypeId} {n : Nat} {β : Names} {H H' : Heap} {w : World} (hs : Sat β H w) (hf : ∀ x, n ≤ x → β x = none) {s u : Value}
    (hx : VT β s u) (h : cClear P ts H s = some H') :
    ∃ w', (Builtin.clear_ ts ty #[u]).run P w = .ok (.tuple #[]) w' ∧ Sat β H' w' ∧ Grow n β H w β H' w' := by
  unfold cClear at h
  split at h
  case h_3 => simp at h
  case h_2 m e =>
    split at h
    case h_2 => simp at h
    case h_1 t ht =>
      split at h
      case h_2 => simp at h
      case h_1 T hT =>
        obtain rfl := Option.some.inj h
        obtain ⟨d, ii, zz, hd, hii, hzz, f1, f2, f3, f4, f5⟩ := ti_some hT
        have hu : ∃ A c, u = .slice A 0 c := by
          obtain ⟨_, hh⟩ := hx
          rcases hh with ⟨_, rfl⟩ | ⟨_, A, rfl⟩ | ⟨_, A, c, rfl⟩
          · exact ⟨_, _, rfl⟩
          · exact ⟨_, _, rfl⟩
          · exact ⟨_, _, rfl⟩
        obtain ⟨A, c, rfl⟩ := hu
        refine ⟨w, ?_, hs, Grow.refl _ _ hf⟩
        cases A <;> simp [Builtin.clear_, ht, run_underlying hd]
  case h_1 a k es =>
    split at h
    case h_2 => simp at h
    case h_1 t ht =>
      split at h
      case h_2 => simp at h
      case h_1 T hT =>
        split at h
        case h_2 => simp at h
        case h_1 e hTe =>
          split at h
          case h_2 => simp at h
          case h_1 E cs hE hH =>
            split at h
            case h_2 => simp at h
            case h_1 z hz0 =>
              split at h
              case isFalse => simp at h
              case isTrue hk =>
                obtain ⟨k1, k2, k3, rfl⟩ := hk
                obtain rfl := Option.some.inj h
                obtain ⟨d, ii, zz, hd, hii, hzz, f1, f2, f3, f4, f5⟩ := ti_some hT
                obtain ⟨d', i', z', hd', hi', hz', e1', e2', e3', e4', _⟩ := ti_some hE
                have := TD.of_slice (f1.symm.trans hTe)
                subst this
                obtain ⟨l, c, el, fz, hl, hc, hsz, hlen, hcv, hfz⟩ := hs.cells hH
                have := hfz rfl
                subst this
                obtain ⟨l', cp, hl', _, hn, hfit, rfl⟩ := hx
                rw [hl] at hl'
                obtain rfl := Option.some.inj hl'
                have hzc : z'.cells = #[z] := by
                  rw [hz0] at e4'
                  exact (Array.toList_inj.mp (by simpa using e4'.symm))
                have hzv : VC β z z := by
                  have := konst0_All2 (β := β) (l := [z]) (by simpa using k2)
                  exact this.1
                have hrep : All2 (VC β) (List.replicate k z) (List.replicate k z) := All2.of_get rfl fun i v hi => ⟨v, hi, by
                  have := List.mem_of_getElem? hi
                  rw [(List.mem_replicate.mp this).2]; exact hzv⟩
                rcases Nat.eq_zero_or_pos k with h0 | h0
                · subst h0
                  refine ⟨w, by simp [Builtin.clear_, ht, run_underlying hd], ?_⟩
                  have : H.set a.block (.cells false (putC cs a.off (List.replicate 0 z))) = H := by
                    funext y
                    unfold Heap.set
                    split
                    · rename_i e; subst e; rw [hH, putC_eq (by simp; omega)]; simp
                    · rfl
                  rw [this]
                  exact ⟨hs, Grow.refl _ _ hf⟩
                · have hrun := run_storeCells_at P l.blk (l.base + a.off) el (List.replicate k z) 0 c w hc (by simp; omega) hrep.oneCell
                  simp only [Nat.add_zero] at hrun
                  have hrun2 : (Builtin.clear_ ts ty #[.slice (some ⟨l.blk, l.base + a.off, none⟩) k cp]).run P w = .ok (.tuple #[]) (w.setRow l.blk (c.toList.take (l.base + a.off) ++ List.replicate k z ++ c.toList.drop (l.base + a.off + (List.replicate k z).length)).toArray) := by
                    obtain ⟨k', rfl⟩ : ∃ k', k = k' + 1 := ⟨k - 1, by omega⟩
                    rw [List.append_assoc] at hrun ⊢
                    simp only [List.length_replicate] at hrun ⊢
                    simp [Builtin.clear_, ht, run_underlying hd, run_zero hi' hz', hzc, zeroCells_one, hrun]
                  refine ⟨_, hrun2, ?_⟩
                  have hfit2 : a.off + (List.replicate k z).length ≤ cs.length := by simp; omega
                  refine write_block hs hH hl ?_ ?_ ?_ n hf
                  · simp; omega
                  · rw [putC_length hfit2]; exact hlen
                  · rw [putC_eq hfit2]
                    intro i v hi
                    have hg := splice_get (β := β) (c := c.toList) (base := l.base) (off := a.off) (fun i v hi => by simpa using hcv i v hi) hrep (by simp; omega) hfit2 i v hi
                    obtain ⟨u, hu, huv⟩ := hg
                    exact ⟨u, by simpa using hu, huv⟩
end Go.Sep
