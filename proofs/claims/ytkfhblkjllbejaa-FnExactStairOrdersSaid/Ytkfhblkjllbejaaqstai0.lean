/- Part of a proof: qstai0 -/
import Derived.Test.YtkfhblkjllbejaaTT
import Derived.Test.YtkfhblkjllbejaaG3
namespace Go.Sep.Walks
open Go Go.Sep Go.Proofs
set_option linter.unusedVariables false
set_option linter.unusedSimpArgs false
theorem laws_szIntA3S_s (p : Option Addr) (m e : Nat) (left : Int) (H : Heap) (n : Nat) (hm : m ≤ 9223372036854775807 ∧ 0 ≤ left ∧ left ≤ 1073741824) : Fn Try.prog 45 [.slice p m e, .int .i64 left] H n (.int .i64 (if left - (m : Int) < 0 then -1 else left - (m : Int))) (H) (n) := by
  refine Fn.intro' Try.func45 rfl (by kernel_rfl) Try.ntmps45 (by simp) (by omega) fun hfresh => ?_
  show W _ _ _ ⟨[(0, _), (1, _)], _, _⟩ _
  refine W.sR [0, 1] fun K hK => ?_
  refine st rfl rfl (e_assign rfl) ?_
  refine stEnd (hK _ [(0, _), (1, _)] _ _ rfl ?_)
  clear hK K
  refine W.sR [1] fun K hK => ?_
  refine st rfl rfl (e_move rfl) ?_
  refine st rfl rfl (e_move rfl) ?_
  refine st rfl rfl (e_len t22 rfl) ?_
  refine st rfl rfl (e_sub rfl rfl (inB _ (by omega))) ?_
  refine st rfl rfl (e_assign rfl) ?_
  refine stEnd (hK _ [(1, _)] _ _ rfl ?_)
  clear hK K
  refine W.seq ?_
  refine W.sR [1, 10] fun K hK => ?_
  refine st rfl rfl (e_move rfl) ?_
  refine st rfl rfl (e_lss rfl rfl) ?_
  refine stB (fun hb1 => ?_) (fun hb1 => ?_)
  ·
    try simp only [decide_eq_true_eq, decide_eq_false_iff_not, Bool.not_eq_true', Bool.not_eq_false', Bool.not_eq_true, Bool.not_eq_false] at hb1
    refine stEnd (hK _ [(1, _), (10, _)] _ _ rfl ?_)
    clear hK K
    refine W.condT rfl ?_
    refine W.sR [4] fun K hK => ?_
    refine st rfl rfl (e_assign rfl) ?_
    refine stEnd (hK _ [(4, _)] _ _ rfl ?_)
    clear hK K
    refine W.ret ?_
    refine thenR ?_
    refine ⟨.inr rfl, Ends.v0 (by repeat (first | exact self_old | assumption | refine set_old ?_ (by omega))) hfresh (by first | rfl | (simp [ltT, ltA, ltC, ltV]; try omega)) (res1 (resT rfl) rfl) ?_⟩
    first | rfl | (congr 1 <;> split <;> omega)
  ·
    try simp only [decide_eq_true_eq, decide_eq_false_iff_not, Bool.not_eq_true', Bool.not_eq_false', Bool.not_eq_true, Bool.not_eq_false] at hb1
    refine stEnd (hK _ [(1, _), (10, _)] _ _ rfl ?_)
    clear hK K
    refine W.condF rfl ?_
    refine W.skip ?_
    refine thenN ?_
    refine W.sR [4] fun K hK => ?_
    refine st rfl rfl (e_move rfl) ?_
    refine st rfl rfl (e_assign rfl) ?_
    refine stEnd (hK _ [(4, _)] _ _ rfl ?_)
    clear hK K
    refine W.ret ?_
    refine ⟨.inr rfl, Ends.v0 (by repeat (first | exact self_old | assumption | refine set_old ?_ (by omega))) hfresh (by first | rfl | (simp [ltT, ltA, ltC, ltV]; try omega)) (res1 (resT rfl) rfl) ?_⟩
    first | rfl | (congr 1 <;> split <;> omega)
theorem laws_szHeap_s (X Y Z : Int) (p : Option Addr) (m e : Nat) (left : Int) (H : Heap) (n : Nat) (hm : m ≤ 9223372036854775807 ∧ 0 ≤ left ∧ left ≤ 1073741824) : Fn Try.prog 13 [.agg #[.int .i64 X, .int .i64 Y, .int .i64 Z, .slice p m e], .int .i64 left] H n (.int .i64 (if left - (m : Int) < 0 then -1 else left - (m : Int))) (H) (n) := by
  refine Fn.intro' Try.func13 rfl (by kernel_rfl) Try.ntmps13 (by simp) (by omega) fun hfresh => ?_
  show W _ _ _ ⟨[(0, _), (1, _)], _, _⟩ _
  refine W.sR [1, 2] fun K hK => ?_
  refine st rfl rfl (e_boxA rfl) ?_
  refine st rfl rfl (e_assign rfl) ?_
  refine stEnd (hK _ [(1, _), (2, _)] _ _ rfl ?_)
  clear hK K
  refine W.sR [1] fun K hK => ?_
  refine st rfl rfl (e_fieldAddr t24 t22 rfl rfl) ?_
  refine st rfl rfl (e_load1 t22 rfl rfl (by repeat (first | exact look_same | assumption | refine look_ne (by omega) ?_)) rfl) ?_
  refine st rfl rfl (e_move rfl) ?_
  refine stC rfl rfl rfl (laws_szIntA3S_s _ _ _ _ _ _ (by omega)) ?_
  refine st rfl rfl (e_assign rfl) ?_
  refine stEnd (hK _ [(1, _)] _ _ rfl ?_)
  clear hK K
  refine W.seq ?_
  refine W.sR [1, 10] fun K hK => ?_
  refine st rfl rfl (e_move rfl) ?_
  refine st rfl rfl (e_lss rfl rfl) ?_
  refine stB (fun hb1 => ?_) (fun hb1 => ?_)
  ·
    try simp only [decide_eq_true_eq, decide_eq_false_iff_not, Bool.not_eq_true', Bool.not_eq_false', Bool.not_eq_true, Bool.not_eq_false] at hb1
    refine stEnd (hK _ [(1, _), (10, _)] _ _ rfl ?_)
    clear hK K
    refine W.condT rfl ?_
    refine W.sR [4] fun K hK => ?_
    refine st rfl rfl (e_assign rfl) ?_
    refine stEnd (hK _ [(4, _)] _ _ rfl ?_)
    clear hK K
    refine W.ret ?_
    refine thenR ?_
    refine ⟨.inr rfl, Ends.v0 (by repeat (first | exact self_old | assumption | refine set_old ?_ (by omega))) hfresh (by first | rfl | (simp [ltT, ltA, ltC, ltV]; try omega)) (res1 (resT rfl) rfl) ?_⟩
    first | rfl | (congr 1 <;> split at * <;> omega)
  ·
    try simp only [decide_eq_true_eq, decide_eq_false_iff_not, Bool.not_eq_true', Bool.not_eq_false', Bool.not_eq_true, Bool.not_eq_false] at hb1
    refine stEnd (hK _ [(1, _), (10, _)] _ _ rfl ?_)
    clear hK K
    refine W.condF rfl ?_
    refine W.skip ?_
    refine thenN ?_
    refine W.sR [4] fun K hK => ?_
    refine st rfl rfl (e_move rfl) ?_
    refine st rfl rfl (e_assign rfl) ?_
    refine stEnd (hK _ [(4, _)] _ _ rfl ?_)
    clear hK K
    refine W.ret ?_
    refine ⟨.inr rfl, Ends.v0 (by repeat (first | exact self_old | assumption | refine set_old ?_ (by omega))) hfresh (by first | rfl | (simp [ltT, ltA, ltC, ltV]; try omega)) (res1 (resT rfl) rfl) ?_⟩
    first | rfl | (congr 1 <;> split at * <;> omega)
theorem laws_toIntA3S_nil_s  (H : Heap) (n : Nat) : Fn Try.prog 48 [.slice none 0 2] H n (.slice (some ⟨n, 0, none⟩) 0 3) (H.set n (.cells false [])) (n + 1) := by
  refine Fn.intro' Try.func48 rfl (by kernel_rfl) Try.ntmps48 (by simp) (by omega) fun hfresh => ?_
  show W _ _ _ ⟨[(0, _)], _, _⟩ _
  refine W.sR [0] fun K hK => ?_
  refine st rfl rfl (e_assign rfl) ?_
  refine stEnd (hK _ [(0, _)] _ _ rfl ?_)
  clear hK K
  refine W.sR [0, 3] fun K hK => ?_
  refine st rfl rfl (e_move rfl) ?_
  refine st rfl rfl (e_len t22 rfl) ?_
  refine st rfl rfl (e_make t22 t62 rfl rfl (by decide) (by omega) (m := 0)) ?_
  refine st rfl rfl (e_assign rfl) ?_
  refine stEnd (hK _ [(0, _), (3, _)] _ _ rfl ?_)
  clear hK K
  refine W.seq ?_
  refine W.sR [0, 3, 4] fun K hK => ?_
  refine st rfl rfl (e_assign rfl) ?_
  refine stEnd (hK _ [(0, _), (3, _), (4, _)] _ _ rfl ?_)
  clear hK K
  refine W.block ?_
  refine W.ord [4, 0, 3] (ts' := [(4, _)] ++ [(0, _), (3, _)]) rfl ?_
  refine W.loopC [(4, _)] [n] (fun κ V G μ => V = [(4, .int .i64 0)] ∧ κ = 0 ∧ (G n = some (.cells false []))) _ ⟨rfl, rfl, look_same⟩ fun κ V G μ hinv hμ hkeep hfr => ?_
  obtain ⟨rfl, rfl, hG⟩ := hinv
  refine W.seq ?_
  refine W.sR [0, 3, 4, 11] fun K hK => ?_
  refine st rfl rfl (e_move rfl) ?_
  refine st rfl rfl (e_move rfl) ?_
  refine st rfl rfl (e_len t22 rfl) ?_
  refine st rfl rfl (e_lss rfl rfl) ?_
  refine stB (fun hz => ?_) (fun hz => ?_)
  ·
    exact absurd hz (by simp)
  ·
    try simp only [decide_eq_true_eq, decide_eq_false_iff_not, Bool.not_eq_true', Bool.not_eq_false', Bool.not_eq_true, Bool.not_eq_false] at hz
    refine stEnd (hK _ [(0, _), (3, _), (4, _), (11, _)] _ _ rfl ?_)
    clear hK K
    refine W.condF rfl ?_
    refine W.exit ?_
    refine thenE ?_
    refine thenE ?_
    refine blockX ?_
    refine thenN ?_
    refine W.sR [2] fun K hK => ?_
    refine st rfl rfl (e_move rfl) ?_
    refine st rfl rfl (e_assign rfl) ?_
    refine stEnd (hK _ [(2, _)] _ _ rfl ?_)
    clear hK K
    refine W.ret ?_
    refine ⟨.inr rfl, Ends.v1 (n) (by omega) (by repeat (first | exact self_old | assumption | refine set_old ?_ (by omega) | refine keep_old (by assumption) ?_ (by omega) (by simp; try omega))) hfresh (by repeat (first | exact look_same | assumption | refine look_ne (by omega) ?_ | refine look_keep (by assumption) (by omega) (by simp; try omega) ?_)) ?_ rfl (by simp [ltT, ltA, ltC, ltV]; try omega) (res1 (resT rfl) rfl) ?_⟩
    · rfl
    · first | rfl | simp [renT, renV, renC, renA, one]
theorem laws_toIntA3_s (c : C) (H : Heap) (n : Nat) : Fn Try.prog 107 [.agg #[.int .i64 c.1, .int .i64 c.2.1, .int .i64 c.2.2]] H n (.agg #[.int .i64 c.1, .int .i64 c.2.1, .int .i64 c.2.2]) (H) (n) := by
  refine Fn.intro' Try.func107 rfl (by kernel_rfl) Try.ntmps107 (by simp) (by omega) fun hfresh => ?_
  show W _ _ _ ⟨[(0, _)], _, _⟩ _
  refine W.sR [1, 2] fun K hK => ?_
  refine st rfl rfl (e_boxA rfl) ?_
  refine st rfl rfl (e_alloc t62 rfl) ?_
  refine stEnd (hK _ [(1, _), (2, _)] _ _ rfl ?_)
  clear hK K
  refine W.sR [1, 2, 3] fun K hK => ?_
  refine st rfl rfl (e_alloc t62 rfl) ?_
  refine stEnd (hK _ [(1, _), (2, _), (3, _)] _ _ rfl ?_)
  clear hK K
  refine W.seq ?_
  refine W.sR [1, 2, 3, 4] fun K hK => ?_
  refine st rfl rfl (e_assign rfl) ?_
  refine stEnd (hK _ [(1, _), (2, _), (3, _), (4, _)] _ _ rfl ?_)
  clear hK K
  refine W.block ?_
  refine W.ord [4, 1, 2, 3] (ts' := [(4, _)] ++ [(1, _), (2, _), (3, _)]) rfl ?_
  refine W.loopC [(4, _)] [n + 1 + 1] (fun κ V G μ => ∃ i : Nat, V = [(4, .int .i64 (i : Nat))] ∧ κ = 3 - i ∧ (i ≤ 3) ∧ (G (n + 1 + 1) = some (.cells false (copyT c i)))) _ ⟨0, rfl, rfl, (by first | omega | assumption | rfl | simp_all), look_same⟩ fun κ V G μ hinv hμ hkeep hfr => ?_
  obtain ⟨i, rfl, rfl, hi, hG⟩ := hinv
  refine W.seq ?_
  refine W.sR [1, 2, 3, 4, 6] fun K hK => ?_
  refine st rfl rfl (e_move rfl) ?_
  refine st rfl rfl (e_lss rfl rfl) ?_
  refine stB (fun hb1 => ?_) (fun hb1 => ?_)
  ·
    try simp only [decide_eq_true_eq, decide_eq_false_iff_not, Bool.not_eq_true', Bool.not_eq_false', Bool.not_eq_true, Bool.not_eq_false] at hb1
    refine stEnd (hK _ [(1, _), (2, _), (3, _), (4, _), (6, _)] _ _ rfl ?_)
    clear hK K
    refine W.condT rfl ?_
    refine W.skip ?_
    refine thenN ?_
    refine W.seq ?_
    refine W.block ?_
    refine W.rR [1, 2, 3, 4] fun K hK => ?_
    refine st rfl rfl (e_move rfl) ?_
    refine st rfl rfl (e_move rfl) ?_
    refine st rfl rfl (e_idxAK _ t62 t3 rfl rfl rfl (by first | omega | decide)) ?_
    refine st rfl rfl (e_load1 t3 rfl rfl (by repeat (first | exact look_same | assumption | refine look_ne (by omega) ?_ | refine look_keep (by assumption) (by omega) (by simp; try omega) ?_)) (by first | rfl | exact tri_getL (by omega))) ?_
    refine st rfl rfl (e_idxAK _ t62 t3 rfl rfl rfl (by first | omega | decide)) ?_
    refine stN rfl (e_store1 t3 rfl rfl rfl (by repeat (first | exact look_same | assumption | refine look_ne (by omega) ?_ | refine look_keep (by assumption) (by omega) (by simp; try omega) ?_)) (by rw [copyT_length (by omega)]; omega)) ?_
    refine stEnd (hK _ [(1, _), (2, _), (3, _), (4, _)] _ _ rfl ?_)
    clear hK K
    refine blockN ?_
    refine thenN ?_
    refine W.rR [4, 1, 2, 3] fun K hK => ?_
    refine st rfl rfl (e_move rfl) ?_
    refine st rfl rfl (e_add rfl rfl (inB _ (by omega))) ?_
    refine st rfl rfl (e_assign rfl) ?_
    refine stEnd (hK _ [(4, _), (1, _), (2, _), (3, _)] _ _ rfl ?_)
    clear hK K
    exact roundN (V' := [(4, _)]) [4, 1, 2, 3] rfl (by omega) (by repeat (first | exact Keeps.refl _ _ _ | assumption | refine Keeps.trans ?_ (by assumption) (by omega) (by simp; try omega) | refine Keeps.set ?_ (by first | exact Or.inl (by omega) | (simp; done) | (simp; omega)) | refine Keeps.del ?_ (by first | exact Or.inl (by omega) | (simp; done) | (simp; omega)) | refine Keeps.delO2 ?_ (by omega))) _ (by omega) ⟨i + 1, rfl, rfl, (by first | omega | assumption | simp_all), (look_same.trans (congrArg some (congrArg (Blk.cells false) (copyT_set (by omega)))))⟩
  ·
    try simp only [decide_eq_true_eq, decide_eq_false_iff_not, Bool.not_eq_true', Bool.not_eq_false', Bool.not_eq_true, Bool.not_eq_false] at hb1
    refine stEnd (hK _ [(1, _), (2, _), (3, _), (4, _), (6, _)] _ _ rfl ?_)
    clear hK K
    refine W.condF rfl ?_
    refine W.exit ?_
    refine thenE ?_
    refine thenE ?_
    refine blockX ?_
    refine thenN ?_
    obtain rfl : i = 3 := by omega
    refine W.sR [2] fun K hK => ?_
    refine st rfl rfl (e_loadA t62 rfl rfl (by repeat (first | exact look_same | assumption | refine look_ne (by omega) ?_ | refine look_keep (by assumption) (by omega) (by simp; try omega) ?_)) rfl rfl) ?_
    refine stN rfl (e_storeA t62 rfl rfl (by repeat (first | exact look_same | assumption | refine look_ne (by omega) ?_ | refine look_keep (by assumption) (by omega) (by simp; try omega) ?_)) rfl rfl rfl (by decide)) ?_
    refine stEnd (hK _ [(2, _)] _ _ rfl ?_)
    clear hK K
    refine W.ret ?_
    refine ⟨.inr rfl, Ends.v0 (by repeat (first | exact self_old | assumption | refine set_old ?_ (by omega) | refine keep_old (by assumption) ?_ (by omega) (by simp; try omega))) hfresh (by first | rfl | (simp [ltT, ltA, ltC, ltV]; try omega)) (res1 (resC t62 rfl rfl (by repeat (first | exact look_same | assumption | refine look_ne (by omega) ?_ | refine look_keep (by assumption) (by omega) (by simp; try omega) ?_)) rfl rfl) rfl) ?_⟩
    rfl
theorem laws_toIntA3S_s (b : Nat) (ro : Bool) (cs : List C) (H : Heap) (n : Nat) (hb : H b = some (.cells ro (flat cs))) (hlen : cs.length ≤ 1048576) : Fn Try.prog 48 [.slice (some ⟨b, 0, none⟩) cs.length 3] H n (.slice (some ⟨n, 0, none⟩) cs.length 3) (H.set n (.cells false (flat cs))) (n + 1) := by
  refine Fn.intro' Try.func48 rfl (by kernel_rfl) Try.ntmps48 (by simp) (by omega) fun hfresh => ?_
  have lt_hb := lt_fresh hfresh hb
  show W _ _ _ ⟨[(0, _)], _, _⟩ _
  refine W.sR [0] fun K hK => ?_
  refine st rfl rfl (e_assign rfl) ?_
  refine stEnd (hK _ [(0, _)] _ _ rfl ?_)
  clear hK K
  refine W.sR [0, 3] fun K hK => ?_
  refine st rfl rfl (e_move rfl) ?_
  refine st rfl rfl (e_len t22 rfl) ?_
  refine st rfl rfl (e_make t22 t62 rfl rfl (by decide) (by omega)) ?_
  refine st rfl rfl (e_assign rfl) ?_
  refine stEnd (hK _ [(0, _), (3, _)] _ _ rfl ?_)
  clear hK K
  refine W.seq ?_
  refine W.sR [0, 3, 4] fun K hK => ?_
  refine st rfl rfl (e_assign rfl) ?_
  refine stEnd (hK _ [(0, _), (3, _), (4, _)] _ _ rfl ?_)
  clear hK K
  refine W.block ?_
  refine W.ord [4, 0, 3] (ts' := [(4, _)] ++ [(0, _), (3, _)]) rfl ?_
  refine W.loopC [(4, _)] [n] (fun κ V G μ => ∃ i : Nat, V = [(4, .int .i64 (i : Nat))] ∧ κ = cs.length - i ∧ (i ≤ cs.length) ∧ (G n = some (.cells false (flat (copyC cs i))))) _ ⟨0, rfl, rfl, (by first | omega | assumption | rfl | simp_all), (by rw [copyC_zero, ← zeros_flat]; exact look_same)⟩ fun κ V G μ hinv hμ hkeep hfr => ?_
  obtain ⟨i, rfl, rfl, hi, hG⟩ := hinv
  refine W.seq ?_
  refine W.sR [0, 3, 4, 11] fun K hK => ?_
  refine st rfl rfl (e_move rfl) ?_
  refine st rfl rfl (e_move rfl) ?_
  refine st rfl rfl (e_len t22 rfl) ?_
  refine st rfl rfl (e_lss rfl rfl) ?_
  refine stB (fun hb1 => ?_) (fun hb1 => ?_)
  ·
    try simp only [decide_eq_true_eq, decide_eq_false_iff_not, Bool.not_eq_true', Bool.not_eq_false', Bool.not_eq_true, Bool.not_eq_false] at hb1
    refine stEnd (hK _ [(0, _), (3, _), (4, _), (11, _)] _ _ rfl ?_)
    clear hK K
    refine W.condT rfl ?_
    refine W.skip ?_
    refine thenN ?_
    refine W.seq ?_
    refine W.block ?_
    refine W.rR [0, 3, 4] fun K hK => ?_
    refine st rfl rfl (e_move rfl) ?_
    refine st rfl rfl (e_move rfl) ?_
    refine st rfl rfl (e_move rfl) ?_
    refine st rfl rfl (e_move rfl) ?_
    refine st rfl rfl (e_idxSK _ t22 t62 rfl rfl rfl (by first | omega | decide)) ?_
    refine st rfl rfl (e_loadP t62 rfl rfl (by repeat (first | exact look_same | assumption | refine look_ne (by omega) ?_ | refine look_keep (by assumption) (by omega) (by simp; try omega) ?_)) (flat_at (by omega))) ?_
    refine stC rfl rfl rfl (laws_toIntA3_s _ _ _ ) ?_
    refine st rfl rfl (e_idxSK _ t22 t62 rfl rfl rfl (by first | omega | decide)) ?_
    refine stN rfl (e_storeP t62 rfl rfl (by repeat (first | exact look_same | assumption | refine look_ne (by omega) ?_ | refine look_keep (by assumption) (by omega) (by simp; try omega) ?_)) rfl (by rw [flat_length, copyC_length (by omega)]; omega)) ?_
    refine stEnd (hK _ [(0, _), (3, _), (4, _)] _ _ rfl ?_)
    clear hK K
    refine blockN ?_
    refine thenN ?_
    refine W.rR [4, 0, 3] fun K hK => ?_
    refine st rfl rfl (e_move rfl) ?_
    refine st rfl rfl (e_add rfl rfl (inB _ (by omega))) ?_
    refine st rfl rfl (e_assign rfl) ?_
    refine stEnd (hK _ [(4, _), (0, _), (3, _)] _ _ rfl ?_)
    clear hK K
    exact roundN (V' := [(4, _)]) [4, 0, 3] rfl (by omega) (by repeat (first | exact Keeps.refl _ _ _ | assumption | refine Keeps.trans ?_ (by assumption) (by omega) (by simp; try omega) | refine Keeps.set ?_ (by first | exact Or.inl (by omega) | (simp; done) | (simp; omega)) | refine Keeps.del ?_ (by first | exact Or.inl (by omega) | (simp; done) | (simp; omega)) | refine Keeps.delO2 ?_ (by omega))) _ (by omega) ⟨i + 1, rfl, rfl, (by first | omega | assumption | simp_all), (look_same.trans (congrArg some (congrArg (Blk.cells false) ((flat_set (c := at3 cs i) (by rw [copyC_length (by omega)]; omega)).trans (congrArg flat (copyC_set (by omega)))))))⟩
  ·
    try simp only [decide_eq_true_eq, decide_eq_false_iff_not, Bool.not_eq_true', Bool.not_eq_false', Bool.not_eq_true, Bool.not_eq_false] at hb1
    refine stEnd (hK _ [(0, _), (3, _), (4, _), (11, _)] _ _ rfl ?_)
    clear hK K
    refine W.condF rfl ?_
    refine W.exit ?_
    refine thenE ?_
    refine thenE ?_
    refine blockX ?_
    refine thenN ?_
    refine W.sR [2] fun K hK => ?_
    refine st rfl rfl (e_move rfl) ?_
    refine st rfl rfl (e_assign rfl) ?_
    refine stEnd (hK _ [(2, _)] _ _ rfl ?_)
    clear hK K
    refine W.ret ?_
    refine ⟨.inr rfl, Ends.v1 (n) (by omega) (by repeat (first | exact self_old | assumption | refine set_old ?_ (by omega) | refine keep_old (by assumption) ?_ (by omega) (by simp; try omega))) hfresh (by repeat (first | exact look_same | assumption | refine look_ne (by omega) ?_ | refine look_keep (by assumption) (by omega) (by simp; try omega) ?_)) ?_ (by first | exact flat_plain _ | exact ints_plain _) (by simp [ltT, ltA, ltC, ltV]; try omega) (res1 (resT rfl) rfl) ?_⟩
    · (obtain rfl : i = cs.length := by omega); rw [copyC_all]
    · first | rfl | simp [renT, renV, renC, renA, one]
theorem laws_toIntA3S_row_s (sv : Value) (cs : List C) (r : Nat) (H : Heap) (n : Nat) (hr : RowC H r sv cs) (hlen : cs.length ≤ 1048576) : Fn Try.prog 48 [sv] H n (.slice (some ⟨n, 0, none⟩) cs.length 3) (H.set n (.cells false (flat cs))) (n + 1) := by
  rcases hr with ⟨rfl, rfl⟩ | ⟨b, _, rfl, hb⟩
  · exact laws_toIntA3S_nil_s H n
  · exact laws_toIntA3S_s b true cs H n hb hlen
theorem laws_toHeap_s (X Y Z : Int) (sv : Value) (cs : List C) (r : Nat) (H : Heap) (n : Nat) (hr : RowC H r sv cs) (hrn : r ≤ n) (hlen : cs.length ≤ 1048576) : Fn Try.prog 15 [.agg #[.int .i64 X, .int .i64 Y, .int .i64 Z, sv]] H n (.agg #[.int .i64 X, .int .i64 Y, .int .i64 Z, .slice (some ⟨n, 0, none⟩) cs.length 3]) (H.set n (.cells false (flat cs))) (n + 1) := by
  refine Fn.intro' Try.func15 rfl (by kernel_rfl) Try.ntmps15 (by simp) (by omega) fun hfresh => ?_
  obtain ⟨p, e, rfl⟩ := hr.form
  show W _ _ _ ⟨[(0, _)], _, _⟩ _
  refine W.sR [1, 2] fun K hK => ?_
  refine st rfl rfl (e_boxA rfl) ?_
  refine st rfl rfl (e_alloc t28 rfl) ?_
  refine stEnd (hK _ [(1, _), (2, _)] _ _ rfl ?_)
  clear hK K
  refine W.sR [1, 2, 3] fun K hK => ?_
  refine st rfl rfl (e_alloc t28 rfl) ?_
  refine stEnd (hK _ [(1, _), (2, _), (3, _)] _ _ rfl ?_)
  clear hK K
  refine W.sR [1, 2, 3] fun K hK => ?_
  refine st rfl rfl (e_fieldAddr t24 t3 rfl rfl) ?_
  refine st rfl rfl (e_load1 t3 rfl rfl (by repeat (first | exact look_same | assumption | refine look_ne (by omega) ?_)) rfl) ?_
  refine st rfl rfl (e_fieldAddr t28 t3 rfl rfl) ?_
  refine stN rfl (e_store1 t3 rfl rfl rfl (by repeat (first | exact look_same | assumption | refine look_ne (by omega) ?_)) (by first | decide | (simp only [ints_length, flat_length]; omega) | (simp; done) | (simp; omega))) ?_
  refine stEnd (hK _ [(1, _), (2, _), (3, _)] _ _ rfl ?_)
  clear hK K
  refine W.sR [1, 2, 3] fun K hK => ?_
  refine st rfl rfl (e_fieldAddr t24 t3 rfl rfl) ?_
  refine st rfl rfl (e_load1 t3 rfl rfl (by repeat (first | exact look_same | assumption | refine look_ne (by omega) ?_)) rfl) ?_
  refine st rfl rfl (e_fieldAddr t28 t3 rfl rfl) ?_
  refine stN rfl (e_store1 t3 rfl rfl rfl (by repeat (first | exact look_same | assumption | refine look_ne (by omega) ?_)) (by first | decide | (simp only [ints_length, flat_length]; omega) | (simp; done) | (simp; omega))) ?_
  refine stEnd (hK _ [(1, _), (2, _), (3, _)] _ _ rfl ?_)
  clear hK K
  refine W.sR [1, 2, 3] fun K hK => ?_
  refine st rfl rfl (e_fieldAddr t24 t3 rfl rfl) ?_
  refine st rfl rfl (e_load1 t3 rfl rfl (by repeat (first | exact look_same | assumption | refine look_ne (by omega) ?_)) rfl) ?_
  refine st rfl rfl (e_fieldAddr t28 t3 rfl rfl) ?_
  refine stN rfl (e_store1 t3 rfl rfl rfl (by repeat (first | exact look_same | assumption | refine look_ne (by omega) ?_)) (by first | decide | (simp only [ints_length, flat_length]; omega) | (simp; done) | (simp; omega))) ?_
  refine stEnd (hK _ [(1, _), (2, _), (3, _)] _ _ rfl ?_)
  clear hK K
  refine W.sR [2, 3] fun K hK => ?_
  refine st rfl rfl (e_fieldAddr t24 t22 rfl rfl) ?_
  refine st rfl rfl (e_load1 t22 rfl rfl (by repeat (first | exact look_same | assumption | refine look_ne (by omega) ?_)) rfl) ?_
  refine stC rfl rfl rfl (laws_toIntA3S_row_s _ _ _ _ _ (RowC.keep hr (by omega) (by repeat (first | exact self_old | assumption | refine set_old ?_ (by omega)))) (by omega)) ?_
  refine st rfl rfl (e_fieldAddr t28 t22 rfl rfl) ?_
  refine stN rfl (e_store1 t22 rfl rfl rfl (by repeat (first | exact look_same | assumption | refine look_ne (by omega) ?_)) (by first | decide | (simp only [ints_length, flat_length]; omega) | (simp; done) | (simp; omega))) ?_
  refine stEnd (hK _ [(2, _), (3, _)] _ _ rfl ?_)
  clear hK K
  refine W.sR [2] fun K hK => ?_
  refine st rfl rfl (e_loadA t28 rfl rfl (by repeat (first | exact look_same | assumption | refine look_ne (by omega) ?_)) rfl rfl) ?_
  refine stN rfl (e_storeA t28 rfl rfl (by repeat (first | exact look_same | assumption | refine look_ne (by omega) ?_)) rfl rfl rfl (by decide)) ?_
  refine stEnd (hK _ [(2, _)] _ _ rfl ?_)
  clear hK K
  refine W.ret ?_
  refine ⟨.inr rfl, Ends.v1 (n + 1 + 1 + 1) (by omega) (by repeat (first | exact self_old | assumption | refine set_old ?_ (by omega))) hfresh (by repeat (first | exact look_same | assumption | refine look_ne (by omega) ?_)) ?_ (by first | exact flat_plain _ | exact ints_plain _) (by simp [ltT, ltA, ltC, ltV]; try omega) (res1 (resC t28 rfl rfl (by repeat (first | exact look_same | assumption | refine look_ne (by omega) ?_)) rfl rfl) rfl) ?_⟩
  · rfl
  · first | rfl | simp [renT, renV, renC, renA, one]
theorem spec_l1In_s (a b c : Int) (H : Heap) (n : Nat) : Fn Try.prog 105 [.int .i64 a, .int .i64 b, .int .i64 c] H n (.bool (within a b c)) (H) (n) := by
  refine Fn.intro' Try.func105 rfl (by kernel_rfl) Try.ntmps105 (by simp) (by omega) fun hfresh => ?_
  show W _ _ _ ⟨[(0, _), (1, _), (2, _)], _, _⟩ _
  refine W.sR [0, 1, 2] fun K hK => ?_
  refine st rfl rfl (e_assign rfl) ?_
  refine stEnd (hK _ [(0, _), (1, _), (2, _)] _ _ rfl ?_)
  clear hK K
  refine W.sR [6] fun K hK => ?_
  refine st rfl rfl (e_move rfl) ?_
  refine st rfl rfl (e_move rfl) ?_
  refine st rfl rfl (e_geq rfl rfl) ?_
  refine st rfl rfl (e_move rfl) ?_
  refine stB (fun hb1 => ?_) (fun hb1 => ?_)
  ·
    try simp only [decide_eq_true_eq, decide_eq_false_iff_not, Bool.not_eq_true', Bool.not_eq_false', Bool.not_eq_true, Bool.not_eq_false] at hb1
    refine st rfl rfl (e_move rfl) ?_
    refine st rfl rfl (e_move rfl) ?_
    refine st rfl rfl (e_leq rfl rfl) ?_
    refine st rfl rfl (e_pickT rfl rfl) ?_
    refine st rfl rfl (e_assign rfl) ?_
    refine stEnd (hK _ [(6, _)] _ _ rfl ?_)
    clear hK K
    refine W.ret ?_
    refine ⟨.inr rfl, Ends.v0 (by repeat (first | exact self_old | assumption | refine set_old ?_ (by omega))) hfresh (by first | rfl | (simp [ltT, ltA, ltC, ltV]; try omega)) (res1 (resT rfl) rfl) ?_⟩
    simp [within, *] <;> omega
  ·
    try simp only [decide_eq_true_eq, decide_eq_false_iff_not, Bool.not_eq_true', Bool.not_eq_false', Bool.not_eq_true, Bool.not_eq_false] at hb1
    refine stS rfl rfl ?_
    refine stS rfl rfl ?_
    refine stS rfl rfl ?_
    refine st rfl rfl (e_pickF rfl rfl) ?_
    refine st rfl rfl (e_assign rfl) ?_
    refine stEnd (hK _ [(6, _)] _ _ rfl ?_)
    clear hK K
    refine W.ret ?_
    refine ⟨.inr rfl, Ends.v0 (by repeat (first | exact self_old | assumption | refine set_old ?_ (by omega))) hfresh (by first | rfl | (simp [ltT, ltA, ltC, ltV]; try omega)) (res1 (resT rfl) rfl) ?_⟩
    simp [within, *] <;> omega
theorem spec_l2Sides_s (X Y Z : Int) (H : Heap) (n : Nat) : Fn Try.prog 113 [.int .i64 X, .int .i64 Y, .int .i64 Z] H n (.bool (sides X Y Z)) (H) (n) := by
  refine Fn.intro' Try.func113 rfl (by kernel_rfl) Try.ntmps113 (by simp) (by omega) fun hfresh => ?_
  show W _ _ _ ⟨[(0, _), (1, _), (2, _)], _, _⟩ _
  refine W.sR [0, 1, 2] fun K hK => ?_
  refine st rfl rfl (e_assign rfl) ?_
  refine stEnd (hK _ [(0, _), (1, _), (2, _)] _ _ rfl ?_)
  clear hK K
  refine W.sR [6] fun K hK => ?_
  refine st rfl rfl (e_move rfl) ?_
  refine stC rfl rfl rfl (spec_l1In_s _ _ _ _ _ ) ?_
  refine st rfl rfl (e_move rfl) ?_
  refine stB (fun hb1 => ?_) (fun hb1 => ?_)
  ·
    try simp only [decide_eq_true_eq, decide_eq_false_iff_not, Bool.not_eq_true', Bool.not_eq_false', Bool.not_eq_true, Bool.not_eq_false] at hb1
    refine st rfl rfl (e_move rfl) ?_
    refine stC rfl rfl rfl (spec_l1In_s _ _ _ _ _ ) ?_
    refine st rfl rfl (e_pickT rfl rfl) ?_
    refine st rfl rfl (e_move rfl) ?_
    refine stB (fun hb2 => ?_) (fun hb2 => ?_)
    ·
      try simp only [decide_eq_true_eq, decide_eq_false_iff_not, Bool.not_eq_true', Bool.not_eq_false', Bool.not_eq_true, Bool.not_eq_false] at hb2
      refine st rfl rfl (e_move rfl) ?_
      refine stC rfl rfl rfl (spec_l1In_s _ _ _ _ _ ) ?_
      refine st rfl rfl (e_pickT rfl rfl) ?_
      refine st rfl rfl (e_assign rfl) ?_
      refine stEnd (hK _ [(6, _)] _ _ rfl ?_)
      clear hK K
      refine W.ret ?_
      refine ⟨.inr rfl, Ends.v0 (by repeat (first | exact self_old | assumption | refine set_old ?_ (by omega))) hfresh (by first | rfl | (simp [ltT, ltA, ltC, ltV]; try omega)) (res1 (resT rfl) rfl) ?_⟩
      simp_all [sides]
    ·
      try simp only [decide_eq_true_eq, decide_eq_false_iff_not, Bool.not_eq_true', Bool.not_eq_false', Bool.not_eq_true, Bool.not_eq_false] at hb2
      refine stS rfl rfl ?_
      refine stS rfl rfl ?_
      refine st rfl rfl (e_pickF rfl rfl) ?_
      refine st rfl rfl (e_assign rfl) ?_
      refine stEnd (hK _ [(6, _)] _ _ rfl ?_)
      clear hK K
      refine W.ret ?_
      refine ⟨.inr rfl, Ends.v0 (by repeat (first | exact self_old | assumption | refine set_old ?_ (by omega))) hfresh (by first | rfl | (simp [ltT, ltA, ltC, ltV]; try omega)) (res1 (resT rfl) rfl) ?_⟩
      simp_all [sides]
  ·
    try simp only [decide_eq_true_eq, decide_eq_false_iff_not, Bool.not_eq_true', Bool.not_eq_false', Bool.not_eq_true, Bool.not_eq_false] at hb1
    refine stS rfl rfl ?_
    refine stS rfl rfl ?_
    refine st rfl rfl (e_pickF rfl rfl) ?_
    refine st rfl rfl (e_move rfl) ?_
    refine stS rfl rfl ?_
    refine stS rfl rfl ?_
    refine st rfl rfl (e_pickF rfl rfl) ?_
    refine st rfl rfl (e_assign rfl) ?_
    refine stEnd (hK _ [(6, _)] _ _ rfl ?_)
    clear hK K
    refine W.ret ?_
    refine ⟨.inr rfl, Ends.v0 (by repeat (first | exact self_old | assumption | refine set_old ?_ (by omega))) hfresh (by first | rfl | (simp [ltT, ltA, ltC, ltV]; try omega)) (res1 (resT rfl) rfl) ?_⟩
    simp_all [sides]
theorem spec_l2In_s (X Y Z : Int) (sv : Value) (c : C) (H : Heap) (n : Nat) (hX : (1 ≤ X ∧ X ≤ 4) ∧ (1 ≤ Y ∧ Y ≤ 4) ∧ (1 ≤ Z ∧ Z ≤ 4)) : Fn Try.prog 114 [.agg #[.int .i64 X, .int .i64 Y, .int .i64 Z, sv], .agg #[.int .i64 c.1, .int .i64 c.2.1, .int .i64 c.2.2]] H n (.bool (inBox X Y Z c)) (H) (n) := by
  refine Fn.intro' Try.func114 rfl (by kernel_rfl) Try.ntmps114 (by simp) (by omega) fun hfresh => ?_
  show W _ _ _ ⟨[(0, _), (1, _)], _, _⟩ _
  refine W.sR [2, 3] fun K hK => ?_
  refine st rfl rfl (e_boxA rfl) ?_
  refine st rfl rfl (e_boxA rfl) ?_
  refine st rfl rfl (e_assign rfl) ?_
  refine stEnd (hK _ [(2, _), (3, _)] _ _ rfl ?_)
  clear hK K
  refine W.sR [4] fun K hK => ?_
  refine st rfl rfl (e_idxAK (0) t62 t3 rfl rfl (by first | rfl | omega) (by first | omega | decide)) ?_
  refine st rfl rfl (e_load1 t3 rfl rfl (by repeat (first | exact look_same | assumption | refine look_ne (by omega) ?_)) (by first | rfl | exact tri_getL (by omega))) ?_
  refine st rfl rfl (e_fieldAddr t28 t3 rfl rfl) ?_
  refine st rfl rfl (e_load1 t3 rfl rfl (by repeat (first | exact look_same | assumption | refine look_ne (by omega) ?_)) rfl) ?_
  refine st rfl rfl (e_sub rfl rfl (inB _ (by omega))) ?_
  refine stC rfl rfl rfl (spec_l1In_s _ _ _ _ _ ) ?_
  refine st rfl rfl (e_move rfl) ?_
  refine stB (fun hb1 => ?_) (fun hb1 => ?_)
  ·
    try simp only [decide_eq_true_eq, decide_eq_false_iff_not, Bool.not_eq_true', Bool.not_eq_false', Bool.not_eq_true, Bool.not_eq_false] at hb1
    refine st rfl rfl (e_idxAK (1) t62 t3 rfl rfl (by first | rfl | omega) (by first | omega | decide)) ?_
    refine st rfl rfl (e_load1 t3 rfl rfl (by repeat (first | exact look_same | assumption | refine look_ne (by omega) ?_)) (by first | rfl | exact tri_getL (by omega))) ?_
    refine st rfl rfl (e_fieldAddr t28 t3 rfl rfl) ?_
    refine st rfl rfl (e_load1 t3 rfl rfl (by repeat (first | exact look_same | assumption | refine look_ne (by omega) ?_)) rfl) ?_
    refine st rfl rfl (e_sub rfl rfl (inB _ (by omega))) ?_
    refine stC rfl rfl rfl (spec_l1In_s _ _ _ _ _ ) ?_
    refine st rfl rfl (e_pickT rfl rfl) ?_
    refine st rfl rfl (e_move rfl) ?_
    refine stB (fun hb2 => ?_) (fun hb2 => ?_)
    ·
      try simp only [decide_eq_true_eq, decide_eq_false_iff_not, Bool.not_eq_true', Bool.not_eq_false', Bool.not_eq_true, Bool.not_eq_false] at hb2
      refine st rfl rfl (e_idxAK (2) t62 t3 rfl rfl (by first | rfl | omega) (by first | omega | decide)) ?_
      refine st rfl rfl (e_load1 t3 rfl rfl (by repeat (first | exact look_same | assumption | refine look_ne (by omega) ?_)) (by first | rfl | exact tri_getL (by omega))) ?_
      refine st rfl rfl (e_fieldAddr t28 t3 rfl rfl) ?_
      refine st rfl rfl (e_load1 t3 rfl rfl (by repeat (first | exact look_same | assumption | refine look_ne (by omega) ?_)) rfl) ?_
      refine st rfl rfl (e_sub rfl rfl (inB _ (by omega))) ?_
      refine stC rfl rfl rfl (spec_l1In_s _ _ _ _ _ ) ?_
      refine st rfl rfl (e_pickT rfl rfl) ?_
      refine st rfl rfl (e_assign rfl) ?_
      refine stEnd (hK _ [(4, _)] _ _ rfl ?_)
      clear hK K
      refine W.ret ?_
      refine ⟨.inr rfl, Ends.v0 (by repeat (first | exact self_old | assumption | refine set_old ?_ (by omega))) hfresh (by first | rfl | (simp [ltT, ltA, ltC, ltV]; try omega)) (res1 (resT rfl) rfl) ?_⟩
      simp_all [inBox]
    ·
      try simp only [decide_eq_true_eq, decide_eq_false_iff_not, Bool.not_eq_true', Bool.not_eq_false', Bool.not_eq_true, Bool.not_eq_false] at hb2
      refine stS rfl rfl ?_
      refine stS rfl rfl ?_
      refine stS rfl rfl ?_
      refine stS rfl rfl ?_
      refine stS rfl rfl ?_
      refine stS rfl rfl ?_
      refine st rfl rfl (e_pickF rfl rfl) ?_
      refine st rfl rfl (e_assign rfl) ?_
      refine stEnd (hK _ [(4, _)] _ _ rfl ?_)
      clear hK K
      refine W.ret ?_
      refine ⟨.inr rfl, Ends.v0 (by repeat (first | exact self_old | assumption | refine set_old ?_ (by omega))) hfresh (by first | rfl | (simp [ltT, ltA, ltC, ltV]; try omega)) (res1 (resT rfl) rfl) ?_⟩
      simp_all [inBox]
  ·
    try simp only [decide_eq_true_eq, decide_eq_false_iff_not, Bool.not_eq_true', Bool.not_eq_false', Bool.not_eq_true, Bool.not_eq_false] at hb1
    refine stS rfl rfl ?_
    refine stS rfl rfl ?_
    refine stS rfl rfl ?_
    refine stS rfl rfl ?_
    refine stS rfl rfl ?_
    refine stS rfl rfl ?_
    refine st rfl rfl (e_pickF rfl rfl) ?_
    refine st rfl rfl (e_move rfl) ?_
    refine stS rfl rfl ?_
    refine stS rfl rfl ?_
    refine stS rfl rfl ?_
    refine stS rfl rfl ?_
    refine stS rfl rfl ?_
    refine stS rfl rfl ?_
    refine st rfl rfl (e_pickF rfl rfl) ?_
    refine st rfl rfl (e_assign rfl) ?_
    refine stEnd (hK _ [(4, _)] _ _ rfl ?_)
    clear hK K
    refine W.ret ?_
    refine ⟨.inr rfl, Ends.v0 (by repeat (first | exact self_old | assumption | refine set_old ?_ (by omega))) hfresh (by first | rfl | (simp [ltT, ltA, ltC, ltV]; try omega)) (res1 (resT rfl) rfl) ?_⟩
    simp_all [inBox]
theorem spec_l2Before_s (a b : C) (H : Heap) (n : Nat) : Fn Try.prog 115 [.agg #[.int .i64 a.1, .int .i64 a.2.1, .int .i64 a.2.2], .agg #[.int .i64 b.1, .int .i64 b.2.1, .int .i64 b.2.2]] H n (.bool (before a b)) (H) (n) := by
  refine Fn.intro' Try.func115 rfl (by kernel_rfl) Try.ntmps115 (by simp) (by omega) fun hfresh => ?_
  show W _ _ _ ⟨[(0, _), (1, _)], _, _⟩ _
  refine W.sR [2, 3] fun K hK => ?_
  refine st rfl rfl (e_boxA rfl) ?_
  refine st rfl rfl (e_boxA rfl) ?_
  refine st rfl rfl (e_assign rfl) ?_
  refine stEnd (hK _ [(2, _), (3, _)] _ _ rfl ?_)
  clear hK K
  refine W.seq ?_
  refine W.sR [2, 3, 5] fun K hK => ?_
  refine st rfl rfl (e_assign rfl) ?_
  refine stEnd (hK _ [(2, _), (3, _), (5, _)] _ _ rfl ?_)
  clear hK K
  refine W.block ?_
  refine W.ord [5, 2, 3] (ts' := [(5, _)] ++ [(2, _), (3, _)]) rfl ?_
  refine W.loopC [(5, _)] [] (fun κ V G μ => ∃ i : Nat, V = [(5, .int .i64 (i : Nat))] ∧ κ = 3 - i ∧ (i ≤ 3) ∧ (∀ j, j < i → ci a j = ci b j)) _ ⟨0, rfl, rfl, (by first | omega | assumption | rfl | simp_all), (fun j hj => absurd hj (by omega))⟩ fun κ V G μ hinv hμ hkeep hfr => ?_
  obtain ⟨i, rfl, rfl, hi, hq⟩ := hinv
  refine W.seq ?_
  refine W.sR [2, 3, 5, 7] fun K hK => ?_
  refine st rfl rfl (e_move rfl) ?_
  refine st rfl rfl (e_lss rfl rfl) ?_
  refine stB (fun hb1 => ?_) (fun hb1 => ?_)
  ·
    try simp only [decide_eq_true_eq, decide_eq_false_iff_not, Bool.not_eq_true', Bool.not_eq_false', Bool.not_eq_true, Bool.not_eq_false] at hb1
    refine stEnd (hK _ [(2, _), (3, _), (5, _), (7, _)] _ _ rfl ?_)
    clear hK K
    refine W.condT rfl ?_
    refine W.skip ?_
    refine thenN ?_
    refine W.seq ?_
    refine W.block ?_
    refine W.sD [2, 3, 5, 16] [0, 1, 3, 0, 8, 24, 63] (by kernel_rfl) (by kernel_rfl) fun K hK => ?_
    refine dP rfl rfl rfl (e_move rfl) ?_
    refine dP rfl rfl rfl (e_idxAK _ t62 t3 rfl rfl rfl (by first | omega | decide)) ?_
    refine dL rfl rfl rfl (by omega) (accB_ok rfl) (e_load1 t3 rfl rfl (by repeat (first | exact look_same | assumption | refine look_ne (by omega) ?_ | refine look_keep (by assumption) (by omega) (by simp; try omega) ?_)) (by first | rfl | exact tri_getL (by omega))) ?_
    refine dP rfl rfl rfl (e_move rfl) ?_
    refine dP rfl rfl rfl (e_idxAK _ t62 t3 rfl rfl rfl (by first | omega | decide)) ?_
    refine dL rfl rfl rfl (by omega) (accB_ok rfl) (e_load1 t3 rfl rfl (by repeat (first | exact look_same | assumption | refine look_ne (by omega) ?_ | refine look_keep (by assumption) (by omega) (by simp; try omega) ?_)) (by first | rfl | exact tri_getL (by omega))) ?_
    refine dP rfl rfl rfl (e_neq rfl rfl) ?_
    refine dB (fun hb2 => ?_) (fun hb2 => ?_)
    ·
      try simp only [decide_eq_true_eq, decide_eq_false_iff_not, Bool.not_eq_true', Bool.not_eq_false', Bool.not_eq_true, Bool.not_eq_false] at hb2
      refine dEnd (hK _ [(2, _), (3, _), (5, _), (16, _)] _ _ rfl ?_)
      clear hK K
      refine W.condT rfl ?_
      refine W.sD [4] [0, 1, 3, 0, 8, 24, 63, 127] (by kernel_rfl) (by kernel_rfl) fun K hK => ?_
      refine dP rfl rfl rfl (e_move rfl) ?_
      refine dP rfl rfl rfl (e_idxAK _ t62 t3 rfl rfl rfl (by first | omega | decide)) ?_
      refine dL rfl rfl rfl (by omega) (accB_ok rfl) (e_load1 t3 rfl rfl (by repeat (first | exact look_same | assumption | refine look_ne (by omega) ?_ | refine look_keep (by assumption) (by omega) (by simp; try omega) ?_)) (by first | rfl | exact tri_getL (by omega))) ?_
      refine dP rfl rfl rfl (e_move rfl) ?_
      refine dP rfl rfl rfl (e_idxAK _ t62 t3 rfl rfl rfl (by first | omega | decide)) ?_
      refine dL rfl rfl rfl (by omega) (accB_ok rfl) (e_load1 t3 rfl rfl (by repeat (first | exact look_same | assumption | refine look_ne (by omega) ?_ | refine look_keep (by assumption) (by omega) (by simp; try omega) ?_)) (by first | rfl | exact tri_getL (by omega))) ?_
      refine dP rfl rfl rfl (e_lss rfl rfl) ?_
      refine dP rfl rfl rfl (e_assign rfl) ?_
      refine dEnd (hK _ [(4, _)] _ _ rfl ?_)
      clear hK K
      refine W.ret ?_
      refine blockR ?_
      refine thenR ?_
      refine thenR ?_
      refine blockR ?_
      refine thenR ?_
      refine ⟨.inr rfl, Ends.v0 (by repeat (first | exact self_old | assumption | refine set_old ?_ (by omega) | refine keep_old (by assumption) ?_ (by omega) (by simp; try omega))) hfresh (by first | rfl | (simp [ltT, ltA, ltC, ltV]; try omega)) (res1 (resT rfl) rfl) ?_⟩
      first | exact congrArg Value.bool (before_at (by omega) hq (by assumption)).symm | rw [before_no (fun j hj => hq j (by omega))]
    ·
      try simp only [decide_eq_true_eq, decide_eq_false_iff_not, Bool.not_eq_true', Bool.not_eq_false', Bool.not_eq_true, Bool.not_eq_false] at hb2
      refine dEnd (hK _ [(2, _), (3, _), (5, _), (16, _)] _ _ rfl ?_)
      clear hK K
      refine W.condF rfl ?_
      refine W.skip ?_
      refine blockN ?_
      refine thenN ?_
      refine W.rR [5, 2, 3] fun K hK => ?_
      refine st rfl rfl (e_move rfl) ?_
      refine st rfl rfl (e_add rfl rfl (inB _ (by omega))) ?_
      refine st rfl rfl (e_assign rfl) ?_
      refine stEnd (hK _ [(5, _), (2, _), (3, _)] _ _ rfl ?_)
      clear hK K
      exact roundN (V' := [(5, _)]) [5, 2, 3] rfl (by omega) (by repeat (first | exact Keeps.refl _ _ _ | assumption | refine Keeps.trans ?_ (by assumption) (by omega) (by simp; try omega) | refine Keeps.set ?_ (by first | exact Or.inl (by omega) | (simp; done) | (simp; omega)) | refine Keeps.del ?_ (by first | exact Or.inl (by omega) | (simp; done) | (simp; omega)) | refine Keeps.delO2 ?_ (by omega))) _ (by omega) ⟨i + 1, rfl, rfl, (by first | omega | assumption | simp_all), (all_succ hq (by assumption))⟩
  ·
    try simp only [decide_eq_true_eq, decide_eq_false_iff_not, Bool.not_eq_true', Bool.not_eq_false', Bool.not_eq_true, Bool.not_eq_false] at hb1
    refine stEnd (hK _ [(2, _), (3, _), (5, _), (7, _)] _ _ rfl ?_)
    clear hK K
    refine W.condF rfl ?_
    refine W.exit ?_
    refine thenE ?_
    refine thenE ?_
    refine blockX ?_
    refine thenN ?_
    refine W.sR [4] fun K hK => ?_
    refine st rfl rfl (e_assign rfl) ?_
    refine stEnd (hK _ [(4, _)] _ _ rfl ?_)
    clear hK K
    refine W.ret ?_
    refine ⟨.inr rfl, Ends.v0 (by repeat (first | exact self_old | assumption | refine set_old ?_ (by omega) | refine keep_old (by assumption) ?_ (by omega) (by simp; try omega))) hfresh (by first | rfl | (simp [ltT, ltA, ltC, ltV]; try omega)) (res1 (resT rfl) rfl) ?_⟩
    first | exact congrArg Value.bool (before_at (by omega) hq (by assumption)).symm | rw [before_no (fun j hj => hq j (by omega))]
theorem spec_l2Heap_s (X Y Z : Int) (b : Nat) (ro : Bool) (cs : List C) (H : Heap) (n : Nat) (hb : H b = some (.cells ro (flat cs))) (hlen : cs.length ≤ 1048576) : Fn Try.prog 55 [.agg #[.int .i64 X, .int .i64 Y, .int .i64 Z, .slice (some ⟨b, 0, none⟩) cs.length 3]] H n (.bool (isHeap X Y Z cs)) (H) (n) := by
  refine Fn.intro' Try.func55 rfl (by kernel_rfl) Try.ntmps55 (by simp) (by omega) fun hfresh => ?_
  have lt_hb := lt_fresh hfresh hb
  show W _ _ _ ⟨[(0, _)], _, _⟩ _
  refine W.sR [1] fun K hK => ?_
  refine st rfl rfl (e_boxA rfl) ?_
  refine st rfl rfl (e_assign rfl) ?_
  refine stEnd (hK _ [(1, _)] _ _ rfl ?_)
  clear hK K
  refine W.seq ?_
  refine W.sR [1, 11] fun K hK => ?_
  refine st rfl rfl (e_fieldAddr t28 t3 rfl rfl) ?_
  refine st rfl rfl (e_load1 t3 rfl rfl (by repeat (first | exact look_same | assumption | refine look_ne (by omega) ?_ | refine look_keep (by assumption) (by omega) (by simp; try omega) ?_)) rfl) ?_
  refine st rfl rfl (e_fieldAddr t28 t3 rfl rfl) ?_
  refine st rfl rfl (e_load1 t3 rfl rfl (by repeat (first | exact look_same | assumption | refine look_ne (by omega) ?_ | refine look_keep (by assumption) (by omega) (by simp; try omega) ?_)) rfl) ?_
  refine st rfl rfl (e_fieldAddr t28 t3 rfl rfl) ?_
  refine st rfl rfl (e_load1 t3 rfl rfl (by repeat (first | exact look_same | assumption | refine look_ne (by omega) ?_ | refine look_keep (by assumption) (by omega) (by simp; try omega) ?_)) rfl) ?_
  refine stC rfl rfl rfl (spec_l2Sides_s _ _ _ _ _ ) ?_
  refine st rfl rfl (e_not rfl) ?_
  refine stB (fun hv => ?_) (fun hv => ?_)
  ·
    try simp only [decide_eq_true_eq, decide_eq_false_iff_not, Bool.not_eq_true', Bool.not_eq_false', Bool.not_eq_true, Bool.not_eq_false] at hv
    refine stEnd (hK _ [(1, _), (11, _)] _ _ rfl ?_)
    clear hK K
    refine W.condT rfl ?_
    refine W.sR [2] fun K hK => ?_
    refine st rfl rfl (e_assign rfl) ?_
    refine stEnd (hK _ [(2, _)] _ _ rfl ?_)
    clear hK K
    refine W.ret ?_
    refine thenR ?_
    refine ⟨.inr rfl, Ends.v0 (by repeat (first | exact self_old | assumption | refine set_old ?_ (by omega) | refine keep_old (by assumption) ?_ (by omega) (by simp; try omega))) hfresh (by first | rfl | (simp [ltT, ltA, ltC, ltV]; try omega)) (res1 (resT rfl) rfl) ?_⟩
    first | (rw [isHeap_no1 hv]) | (rw [isHeap_yes hv (fun j hj => hq j (by omega))]) | (rw [isHeap_no2 (i := i) (by omega) (by first | exact okAt_no1 (by assumption) | exact okAt_no2 (by omega) (by assumption) | exact okAt_no3 (by omega) (by assumption))])
  ·
    try simp only [decide_eq_true_eq, decide_eq_false_iff_not, Bool.not_eq_true', Bool.not_eq_false', Bool.not_eq_true, Bool.not_eq_false] at hv
    have hX := sides_bd hv
    refine stEnd (hK _ [(1, _), (11, _)] _ _ rfl ?_)
    clear hK K
    refine W.condF rfl ?_
    refine W.skip ?_
    refine thenN ?_
    refine W.seq ?_
    refine W.sR [1, 3] fun K hK => ?_
    refine st rfl rfl (e_assign rfl) ?_
    refine stEnd (hK _ [(1, _), (3, _)] _ _ rfl ?_)
    clear hK K
    refine W.block ?_
    refine W.ord [3, 1] (ts' := [(3, _)] ++ [(1, _)]) rfl ?_
    refine W.loopC [(3, _)] [] (fun κ V G μ => ∃ i : Nat, V = [(3, .int .i64 (i : Nat))] ∧ κ = cs.length - i ∧ (i ≤ cs.length) ∧ (∀ j, j < i → okAt X Y Z cs j = true)) _ ⟨0, rfl, rfl, (by first | omega | assumption | rfl | simp_all), (fun j hj => absurd hj (by omega))⟩ fun κ V G μ hinv hμ hkeep hfr => ?_
    obtain ⟨i, rfl, rfl, hi, hq⟩ := hinv
    refine W.seq ?_
    refine W.sR [1, 3, 16] fun K hK => ?_
    refine st rfl rfl (e_move rfl) ?_
    refine st rfl rfl (e_fieldAddr t28 t22 rfl rfl) ?_
    refine st rfl rfl (e_load1 t22 rfl rfl (by repeat (first | exact look_same | assumption | refine look_ne (by omega) ?_ | refine look_keep (by assumption) (by omega) (by simp; try omega) ?_)) rfl) ?_
    refine st rfl rfl (e_len t22 rfl) ?_
    refine st rfl rfl (e_lss rfl rfl) ?_
    refine stB (fun hb2 => ?_) (fun hb2 => ?_)
    ·
      try simp only [decide_eq_true_eq, decide_eq_false_iff_not, Bool.not_eq_true', Bool.not_eq_false', Bool.not_eq_true, Bool.not_eq_false] at hb2
      refine stEnd (hK _ [(1, _), (3, _), (16, _)] _ _ rfl ?_)
      clear hK K
      refine W.condT rfl ?_
      refine W.skip ?_
      refine thenN ?_
      refine W.seq ?_
      refine W.block ?_
      refine W.sD [1, 3, 45] [0, 0, 2, 0, 14, 30, 63, 127, 255, 511, 1023, 2047, 4095, 8191, 4095, 20479, 65535, 131071, 4095, 266239, 4095, 1839103, 3936255, 8388607, 16777215, 33554431, 67108863] (by kernel_rfl) (by kernel_rfl) fun K hK => ?_
      refine dL rfl rfl rfl (by omega) (accB_ok rfl) (e_loadA t28 rfl rfl (by repeat (first | exact look_same | assumption | refine look_ne (by omega) ?_ | refine look_keep (by assumption) (by omega) (by simp; try omega) ?_)) rfl rfl) ?_
      refine dP rfl rfl rfl (e_fieldAddr t28 t22 rfl rfl) ?_
      refine dL rfl rfl rfl (by omega) (accB_ok rfl) (e_load1 t22 rfl rfl (by repeat (first | exact look_same | assumption | refine look_ne (by omega) ?_ | refine look_keep (by assumption) (by omega) (by simp; try omega) ?_)) rfl) ?_
      refine dP rfl rfl rfl (e_move rfl) ?_
      refine dP rfl rfl rfl (e_idxSK _ t22 t62 rfl rfl rfl (by first | omega | decide)) ?_
      refine dL rfl rfl rfl (by omega) (accB_ok rfl) (e_loadP t62 rfl rfl (by repeat (first | exact look_same | assumption | refine look_ne (by omega) ?_ | refine look_keep (by assumption) (by omega) (by simp; try omega) ?_)) (flat_at (by omega))) ?_
      refine dC rfl rfl rfl rfl (spec_l2In_s _ _ _ _ _ _ _ (by omega)) (accB_ok rfl) ?_
      refine dP rfl rfl rfl (e_not rfl) ?_
      refine dP rfl rfl rfl (e_move rfl) ?_
      refine dB (fun hb3 => ?_) (fun hb3 => ?_)
      ·
        try simp only [decide_eq_true_eq, decide_eq_false_iff_not, Bool.not_eq_true', Bool.not_eq_false', Bool.not_eq_true, Bool.not_eq_false] at hb3
        refine dS rfl rfl ?_
        refine dS rfl rfl ?_
        refine dS rfl rfl ?_
        refine dS rfl rfl ?_
        refine dS rfl rfl ?_
        refine dS rfl rfl ?_
        refine dS rfl rfl ?_
        refine dS rfl rfl ?_
        refine dS rfl rfl ?_
        refine dS rfl rfl ?_
        refine dS rfl rfl ?_
        refine dS rfl rfl ?_
        refine dS rfl rfl ?_
        refine dS rfl rfl ?_
        refine dS rfl rfl ?_
        refine dS rfl rfl ?_
        refine dS rfl rfl ?_
        refine dP rfl rfl rfl (e_pickT rfl rfl) ?_
        refine dEnd (hK _ [(1, _), (3, _), (45, _)] _ _ rfl ?_)
        clear hK K
        refine W.condT rfl ?_
        refine W.sR [2] fun K hK => ?_
        refine st rfl rfl (e_assign rfl) ?_
        refine stEnd (hK _ [(2, _)] _ _ rfl ?_)
        clear hK K
        refine W.ret ?_
        refine blockR ?_
        refine thenR ?_
        refine thenR ?_
        refine blockR ?_
        refine thenR ?_
        refine ⟨.inr rfl, Ends.v0 (by repeat (first | exact self_old | assumption | refine set_old ?_ (by omega) | refine keep_old (by assumption) ?_ (by omega) (by simp; try omega))) hfresh (by first | rfl | (simp [ltT, ltA, ltC, ltV]; try omega)) (res1 (resT rfl) rfl) ?_⟩
        first | (rw [isHeap_no1 hv]) | (rw [isHeap_yes hv (fun j hj => hq j (by omega))]) | (rw [isHeap_no2 (i := i) (by omega) (by first | exact okAt_no1 (by assumption) | exact okAt_no2 (by omega) (by assumption) | exact okAt_no3 (by omega) (by assumption))])
      ·
        try simp only [decide_eq_true_eq, decide_eq_false_iff_not, Bool.not_eq_true', Bool.not_eq_false', Bool.not_eq_true, Bool.not_eq_false] at hb3
        refine dP rfl rfl rfl (e_move rfl) ?_
        refine dP rfl rfl rfl (e_gtr rfl rfl) ?_
        refine dP rfl rfl rfl (e_move rfl) ?_
        refine dB (fun hb4 => ?_) (fun hb4 => ?_)
        ·
          try simp only [decide_eq_true_eq, decide_eq_false_iff_not, Bool.not_eq_true', Bool.not_eq_false', Bool.not_eq_true, Bool.not_eq_false] at hb4
          refine dP rfl rfl rfl (e_fieldAddr t28 t22 rfl rfl) ?_
          refine dL rfl rfl rfl (by omega) (accB_ok rfl) (e_load1 t22 rfl rfl (by repeat (first | exact look_same | assumption | refine look_ne (by omega) ?_ | refine look_keep (by assumption) (by omega) (by simp; try omega) ?_)) rfl) ?_
          refine dP rfl rfl rfl (e_move rfl) ?_
          refine dP rfl rfl rfl (e_sub rfl rfl (inB _ (by omega))) ?_
          refine dP rfl rfl rfl (e_idxSK (i - 1) t22 t62 rfl rfl (by first | rfl | omega) (by first | omega | decide)) ?_
          refine dL rfl rfl rfl (by omega) (accB_ok rfl) (e_loadP t62 rfl rfl (by repeat (first | exact look_same | assumption | refine look_ne (by omega) ?_ | refine look_keep (by assumption) (by omega) (by simp; try omega) ?_)) (flat_at (by omega))) ?_
          refine dP rfl rfl rfl (e_fieldAddr t28 t22 rfl rfl) ?_
          refine dL rfl rfl rfl (by omega) (accB_ok rfl) (e_load1 t22 rfl rfl (by repeat (first | exact look_same | assumption | refine look_ne (by omega) ?_ | refine look_keep (by assumption) (by omega) (by simp; try omega) ?_)) rfl) ?_
          refine dP rfl rfl rfl (e_move rfl) ?_
          refine dP rfl rfl rfl (e_idxSK _ t22 t62 rfl rfl rfl (by first | omega | decide)) ?_
          refine dL rfl rfl rfl (by omega) (accB_ok rfl) (e_loadP t62 rfl rfl (by repeat (first | exact look_same | assumption | refine look_ne (by omega) ?_ | refine look_keep (by assumption) (by omega) (by simp; try omega) ?_)) (flat_at (by omega))) ?_
          refine dC rfl rfl rfl rfl (spec_l2Before_s _ _ _ _ ) (accB_ok rfl) ?_
          refine dP rfl rfl rfl (e_not rfl) ?_
          refine dP rfl rfl rfl (e_pickT rfl rfl) ?_
          refine dP rfl rfl rfl (e_pickF rfl rfl) ?_
          refine dB (fun hb5 => ?_) (fun hb5 => ?_)
          ·
            try simp only [decide_eq_true_eq, decide_eq_false_iff_not, Bool.not_eq_true', Bool.not_eq_false', Bool.not_eq_true, Bool.not_eq_false] at hb5
            refine dEnd (hK _ [(1, _), (3, _), (45, _)] _ _ rfl ?_)
            clear hK K
            refine W.condT rfl ?_
            refine W.sR [2] fun K hK => ?_
            refine st rfl rfl (e_assign rfl) ?_
            refine stEnd (hK _ [(2, _)] _ _ rfl ?_)
            clear hK K
            refine W.ret ?_
            refine blockR ?_
            refine thenR ?_
            refine thenR ?_
            refine blockR ?_
            refine thenR ?_
            refine ⟨.inr rfl, Ends.v0 (by repeat (first | exact self_old | assumption | refine set_old ?_ (by omega) | refine keep_old (by assumption) ?_ (by omega) (by simp; try omega))) hfresh (by first | rfl | (simp [ltT, ltA, ltC, ltV]; try omega)) (res1 (resT rfl) rfl) ?_⟩
            first | (rw [isHeap_no1 hv]) | (rw [isHeap_yes hv (fun j hj => hq j (by omega))]) | (rw [isHeap_no2 (i := i) (by omega) (by first | exact okAt_no1 (by assumption) | exact okAt_no2 (by omega) (by assumption) | exact okAt_no3 (by omega) (by assumption))])
          ·
            try simp only [decide_eq_true_eq, decide_eq_false_iff_not, Bool.not_eq_true', Bool.not_eq_false', Bool.not_eq_true, Bool.not_eq_false] at hb5
            refine dEnd (hK _ [(1, _), (3, _), (45, _)] _ _ rfl ?_)
            clear hK K
            refine W.condF rfl ?_
            refine W.skip ?_
            refine blockN ?_
            refine thenN ?_
            refine W.rR [3, 1] fun K hK => ?_
            refine st rfl rfl (e_move rfl) ?_
            refine st rfl rfl (e_add rfl rfl (inB _ (by omega))) ?_
            refine st rfl rfl (e_assign rfl) ?_
            refine stEnd (hK _ [(3, _), (1, _)] _ _ rfl ?_)
            clear hK K
            exact roundN (V' := [(3, _)]) [3, 1] rfl (by omega) (by repeat (first | exact Keeps.refl _ _ _ | assumption | refine Keeps.trans ?_ (by assumption) (by omega) (by simp; try omega) | refine Keeps.set ?_ (by first | exact Or.inl (by omega) | (simp; done) | (simp; omega)) | refine Keeps.del ?_ (by first | exact Or.inl (by omega) | (simp; done) | (simp; omega)) | refine Keeps.delO2 ?_ (by omega))) _ (by omega) ⟨i + 1, rfl, rfl, (by first | omega | assumption | simp_all), (all_succ hq (by first | exact okAt_yes1 (by assumption) (by omega) | exact okAt_yes2 (by assumption) (by assumption) | exact okAt_yes3 (by assumption) (by assumption)))⟩
        ·
          try simp only [decide_eq_true_eq, decide_eq_false_iff_not, Bool.not_eq_true', Bool.not_eq_false', Bool.not_eq_true, Bool.not_eq_false] at hb4
          refine dS rfl rfl ?_
          refine dS rfl rfl ?_
          refine dS rfl rfl ?_
          refine dS rfl rfl ?_
          refine dS rfl rfl ?_
          refine dS rfl rfl ?_
          refine dS rfl rfl ?_
          refine dS rfl rfl ?_
          refine dS rfl rfl ?_
          refine dS rfl rfl ?_
          refine dS rfl rfl ?_
          refine dS rfl rfl ?_
          refine dS rfl rfl ?_
          refine dP rfl rfl rfl (e_pickF rfl rfl) ?_
          refine dP rfl rfl rfl (e_pickF rfl rfl) ?_
          refine dEnd (hK _ [(1, _), (3, _), (45, _)] _ _ rfl ?_)
          clear hK K
          refine W.condF rfl ?_
          refine W.skip ?_
          refine blockN ?_
          refine thenN ?_
          refine W.rR [3, 1] fun K hK => ?_
          refine st rfl rfl (e_move rfl) ?_
          refine st rfl rfl (e_add rfl rfl (inB _ (by omega))) ?_
          refine st rfl rfl (e_assign rfl) ?_
          refine stEnd (hK _ [(3, _), (1, _)] _ _ rfl ?_)
          clear hK K
          exact roundN (V' := [(3, _)]) [3, 1] rfl (by omega) (by repeat (first | exact Keeps.refl _ _ _ | assumption | refine Keeps.trans ?_ (by assumption) (by omega) (by simp; try omega) | refine Keeps.set ?_ (by first | exact Or.inl (by omega) | (simp; done) | (simp; omega)) | refine Keeps.del ?_ (by first | exact Or.inl (by omega) | (simp; done) | (simp; omega)) | refine Keeps.delO2 ?_ (by omega))) _ (by omega) ⟨i + 1, rfl, rfl, (by first | omega | assumption | simp_all), (all_succ hq (by first | exact okAt_yes1 (by assumption) (by omega) | exact okAt_yes2 (by assumption) (by assumption) | exact okAt_yes3 (by assumption) (by assumption)))⟩
    ·
      try simp only [decide_eq_true_eq, decide_eq_false_iff_not, Bool.not_eq_true', Bool.not_eq_false', Bool.not_eq_true, Bool.not_eq_false] at hb2
      refine stEnd (hK _ [(1, _), (3, _), (16, _)] _ _ rfl ?_)
      clear hK K
      refine W.condF rfl ?_
      refine W.exit ?_
      refine thenE ?_
      refine thenE ?_
      refine blockX ?_
      refine thenN ?_
      refine W.sR [2] fun K hK => ?_
      refine st rfl rfl (e_assign rfl) ?_
      refine stEnd (hK _ [(2, _)] _ _ rfl ?_)
      clear hK K
      refine W.ret ?_
      refine ⟨.inr rfl, Ends.v0 (by repeat (first | exact self_old | assumption | refine set_old ?_ (by omega) | refine keep_old (by assumption) ?_ (by omega) (by simp; try omega))) hfresh (by first | rfl | (simp [ltT, ltA, ltC, ltV]; try omega)) (res1 (resT rfl) rfl) ?_⟩
      first | (rw [isHeap_no1 hv]) | (rw [isHeap_yes hv (fun j hj => hq j (by omega))]) | (rw [isHeap_no2 (i := i) (by omega) (by first | exact okAt_no1 (by assumption) | exact okAt_no2 (by omega) (by assumption) | exact okAt_no3 (by omega) (by assumption))])
theorem spec_l2Has_s (X Y Z : Int) (b : Nat) (ro : Bool) (cs : List C) (c : C) (H : Heap) (n : Nat) (hb : H b = some (.cells ro (flat cs))) (hlen : cs.length ≤ 1048576) : Fn Try.prog 127 [.agg #[.int .i64 X, .int .i64 Y, .int .i64 Z, .slice (some ⟨b, 0, none⟩) cs.length 3], .agg #[.int .i64 c.1, .int .i64 c.2.1, .int .i64 c.2.2]] H n (.bool (decide (c ∈ cs))) (H) (n) := by
  refine Fn.intro' Try.func127 rfl (by kernel_rfl) Try.ntmps127 (by simp) (by omega) fun hfresh => ?_
  have lt_hb := lt_fresh hfresh hb
  show W _ _ _ ⟨[(0, _), (1, _)], _, _⟩ _
  refine W.sR [2, 3] fun K hK => ?_
  refine st rfl rfl (e_boxA rfl) ?_
  refine st rfl rfl (e_boxA rfl) ?_
  refine st rfl rfl (e_assign rfl) ?_
  refine stEnd (hK _ [(2, _), (3, _)] _ _ rfl ?_)
  clear hK K
  refine W.seq ?_
  refine W.sR [2, 3, 5] fun K hK => ?_
  refine st rfl rfl (e_assign rfl) ?_
  refine stEnd (hK _ [(2, _), (3, _), (5, _)] _ _ rfl ?_)
  clear hK K
  refine W.block ?_
  refine W.ord [5, 2, 3] (ts' := [(5, _)] ++ [(2, _), (3, _)]) rfl ?_
  refine W.loopC [(5, _)] [] (fun κ V G μ => ∃ i : Nat, V = [(5, .int .i64 (i : Nat))] ∧ κ = cs.length - i ∧ (i ≤ cs.length) ∧ (∀ j, j < i → ¬ at3 cs j = c)) _ ⟨0, rfl, rfl, (by first | omega | assumption | rfl | simp_all), (fun j hj => absurd hj (by omega))⟩ fun κ V G μ hinv hμ hkeep hfr => ?_
  obtain ⟨i, rfl, rfl, hi, hq⟩ := hinv
  refine W.seq ?_
  refine W.sR [2, 3, 5, 10] fun K hK => ?_
  refine st rfl rfl (e_move rfl) ?_
  refine st rfl rfl (e_fieldAddr t28 t22 rfl rfl) ?_
  refine st rfl rfl (e_load1 t22 rfl rfl (by repeat (first | exact look_same | assumption | refine look_ne (by omega) ?_ | refine look_keep (by assumption) (by omega) (by simp; try omega) ?_)) rfl) ?_
  refine st rfl rfl (e_len t22 rfl) ?_
  refine st rfl rfl (e_lss rfl rfl) ?_
  refine stB (fun hb1 => ?_) (fun hb1 => ?_)
  ·
    try simp only [decide_eq_true_eq, decide_eq_false_iff_not, Bool.not_eq_true', Bool.not_eq_false', Bool.not_eq_true, Bool.not_eq_false] at hb1
    refine stEnd (hK _ [(2, _), (3, _), (5, _), (10, _)] _ _ rfl ?_)
    clear hK K
    refine W.condT rfl ?_
    refine W.skip ?_
    refine thenN ?_
    refine W.seq ?_
    refine W.block ?_
    refine W.sD [2, 3, 5, 19] [0, 1, 0, 7, 15, 0, 63] (by kernel_rfl) (by kernel_rfl) fun K hK => ?_
    refine dP rfl rfl rfl (e_fieldAddr t28 t22 rfl rfl) ?_
    refine dL rfl rfl rfl (by omega) (accB_ok rfl) (e_load1 t22 rfl rfl (by repeat (first | exact look_same | assumption | refine look_ne (by omega) ?_ | refine look_keep (by assumption) (by omega) (by simp; try omega) ?_)) rfl) ?_
    refine dP rfl rfl rfl (e_move rfl) ?_
    refine dP rfl rfl rfl (e_idxSK _ t22 t62 rfl rfl rfl (by first | omega | decide)) ?_
    refine dL rfl rfl rfl (by omega) (accB_ok rfl) (e_loadP t62 rfl rfl (by repeat (first | exact look_same | assumption | refine look_ne (by omega) ?_ | refine look_keep (by assumption) (by omega) (by simp; try omega) ?_)) (flat_at (by omega))) ?_
    refine dL rfl rfl rfl (by omega) (accB_ok rfl) (e_loadA t62 rfl rfl (by repeat (first | exact look_same | assumption | refine look_ne (by omega) ?_ | refine look_keep (by assumption) (by omega) (by simp; try omega) ?_)) rfl rfl) ?_
    refine dP rfl rfl rfl (e_eqA3 t62 t3 rfl rfl) ?_
    refine dB (fun hz => ?_) (fun hz => ?_)
    ·
      try simp only [decide_eq_true_eq, decide_eq_false_iff_not, Bool.not_eq_true', Bool.not_eq_false', Bool.not_eq_true, Bool.not_eq_false] at hz
      refine dEnd (hK _ [(2, _), (3, _), (5, _), (19, _)] _ _ rfl ?_)
      clear hK K
      refine W.condT rfl ?_
      refine W.sR [4] fun K hK => ?_
      refine st rfl rfl (e_assign rfl) ?_
      refine stEnd (hK _ [(4, _)] _ _ rfl ?_)
      clear hK K
      refine W.ret ?_
      refine blockR ?_
      refine thenR ?_
      refine thenR ?_
      refine blockR ?_
      refine thenR ?_
      refine ⟨.inr rfl, Ends.v0 (by repeat (first | exact self_old | assumption | refine set_old ?_ (by omega) | refine keep_old (by assumption) ?_ (by omega) (by simp; try omega))) hfresh (by first | rfl | (simp [ltT, ltA, ltC, ltV]; try omega)) (res1 (resT rfl) rfl) ?_⟩
      first | rw [has_yes (i := i) (by omega) hz] | rw [has_no (fun j hj => hq j (by omega))]
    ·
      try simp only [decide_eq_true_eq, decide_eq_false_iff_not, Bool.not_eq_true', Bool.not_eq_false', Bool.not_eq_true, Bool.not_eq_false] at hz
      refine dEnd (hK _ [(2, _), (3, _), (5, _), (19, _)] _ _ rfl ?_)
      clear hK K
      refine W.condF rfl ?_
      refine W.skip ?_
      refine blockN ?_
      refine thenN ?_
      refine W.rR [5, 2, 3] fun K hK => ?_
      refine st rfl rfl (e_move rfl) ?_
      refine st rfl rfl (e_add rfl rfl (inB _ (by omega))) ?_
      refine st rfl rfl (e_assign rfl) ?_
      refine stEnd (hK _ [(5, _), (2, _), (3, _)] _ _ rfl ?_)
      clear hK K
      exact roundN (V' := [(5, _)]) [5, 2, 3] rfl (by omega) (by repeat (first | exact Keeps.refl _ _ _ | assumption | refine Keeps.trans ?_ (by assumption) (by omega) (by simp; try omega) | refine Keeps.set ?_ (by first | exact Or.inl (by omega) | (simp; done) | (simp; omega)) | refine Keeps.del ?_ (by first | exact Or.inl (by omega) | (simp; done) | (simp; omega)) | refine Keeps.delO2 ?_ (by omega))) _ (by omega) ⟨i + 1, rfl, rfl, (by first | omega | assumption | simp_all), (all_succ hq hz)⟩
  ·
    try simp only [decide_eq_true_eq, decide_eq_false_iff_not, Bool.not_eq_true', Bool.not_eq_false', Bool.not_eq_true, Bool.not_eq_false] at hb1
    refine stEnd (hK _ [(2, _), (3, _), (5, _), (10, _)] _ _ rfl ?_)
    clear hK K
    refine W.condF rfl ?_
    refine W.exit ?_
    refine thenE ?_
    refine thenE ?_
    refine blockX ?_
    refine thenN ?_
    refine W.sR [4] fun K hK => ?_
    refine st rfl rfl (e_assign rfl) ?_
    refine stEnd (hK _ [(4, _)] _ _ rfl ?_)
    clear hK K
    refine W.ret ?_
    refine ⟨.inr rfl, Ends.v0 (by repeat (first | exact self_old | assumption | refine set_old ?_ (by omega) | refine keep_old (by assumption) ?_ (by omega) (by simp; try omega))) hfresh (by first | rfl | (simp [ltT, ltA, ltC, ltV]; try omega)) (res1 (resT rfl) rfl) ?_⟩
    first | rw [has_yes (i := i) (by omega) hz] | rw [has_no (fun j hj => hq j (by omega))]
theorem spec_l5Stair_s (X Y Z : Int) (b : Nat) (ro : Bool) (cs : List C) (H : Heap) (n : Nat) (hb : H b = some (.cells ro (flat cs))) (hlen : cs.length ≤ 1048576) (hv : Valid X Y Z cs) : Fn Try.prog 143 [.agg #[.int .i64 X, .int .i64 Y, .int .i64 Z, .slice (some ⟨b, 0, none⟩) cs.length 3]] H n (.bool (stairC cs)) (H) (n) := by
  refine Fn.intro' Try.func143 rfl (by kernel_rfl) Try.ntmps143 (by simp) (by omega) fun hfresh => ?_
  have lt_hb := lt_fresh hfresh hb
  have hX := hv.box
  have hvl := vol_le hX
  show W _ _ _ ⟨[(0, _)], _, _⟩ _
  refine W.sR [1] fun K hK => ?_
  refine st rfl rfl (e_boxA rfl) ?_
  refine st rfl rfl (e_assign rfl) ?_
  refine stEnd (hK _ [(1, _)] _ _ rfl ?_)
  clear hK K
  refine W.seq ?_
  refine W.sR [1, 3] fun K hK => ?_
  refine st rfl rfl (e_assign rfl) ?_
  refine stEnd (hK _ [(1, _), (3, _)] _ _ rfl ?_)
  clear hK K
  refine W.block ?_
  refine W.ord [3, 1] (ts' := [(3, _)] ++ [(1, _)]) rfl ?_
  refine W.loopC [(3, _)] [] (fun κ V G0 μ0 => ∃ i : Nat, V = [(3, .int .i64 (i : Nat))] ∧ κ = cs.length - i ∧ (i ≤ cs.length) ∧ (∀ j, j < i → ∀ k, k < 3 → lowOk cs (at3 cs j) k = true)) _ ⟨0, rfl, rfl, (by first | omega | assumption | rfl | simp_all), (fun j hj => absurd hj (by omega))⟩ fun κ V G0 μ0 hinv hμ0 hkeep0 hfr0 => ?_
  obtain ⟨i, rfl, rfl, hi, hq⟩ := hinv
  refine W.seq ?_
  refine W.sR [1, 3, 10] fun K hK => ?_
  refine st rfl rfl (e_move rfl) ?_
  refine st rfl rfl (e_fieldAddr t28 t22 rfl rfl) ?_
  refine st rfl rfl (e_load1 t22 rfl rfl (by repeat (first | exact look_same | assumption | refine look_ne (by omega) ?_ | refine look_keep (by assumption) (by omega) (by simp; try omega) ?_)) rfl) ?_
  refine st rfl rfl (e_len t22 rfl) ?_
  refine st rfl rfl (e_lss rfl rfl) ?_
  refine stB (fun hb1 => ?_) (fun hb1 => ?_)
  ·
    try simp only [decide_eq_true_eq, decide_eq_false_iff_not, Bool.not_eq_true', Bool.not_eq_false', Bool.not_eq_true, Bool.not_eq_false] at hb1
    refine stEnd (hK _ [(1, _), (3, _), (10, _)] _ _ rfl ?_)
    clear hK K
    refine W.condT rfl ?_
    refine W.skip ?_
    refine thenN ?_
    refine W.seq ?_
    refine W.block ?_
    refine W.sR [1, 3, 4] fun K hK => ?_
    refine st rfl rfl (e_assign rfl) ?_
    refine stEnd (hK _ [(1, _), (3, _), (4, _)] _ _ rfl ?_)
    clear hK K
    refine W.block ?_
    refine W.ord [4, 1, 3] (ts' := [(4, _)] ++ [(1, _), (3, _)]) rfl ?_
    refine W.loopC [(4, _)] [] (fun κ V G1 μ1 => ∃ k : Nat, V = [(4, .int .i64 (k : Nat))] ∧ κ = 3 - k ∧ (k ≤ 3) ∧ (∀ q, q < k → lowOk cs (at3 cs i) q = true)) _ ⟨0, rfl, rfl, (by first | omega | assumption | rfl | simp_all), (fun j hj => absurd hj (by omega))⟩ fun κ V G1 μ1 hinv hμ1 hkeep1 hfr1 => ?_
    obtain ⟨k, rfl, rfl, hk, hq2⟩ := hinv
    refine W.seq ?_
    refine W.sR [1, 3, 4, 14] fun K hK => ?_
    refine st rfl rfl (e_move rfl) ?_
    refine st rfl rfl (e_lss rfl rfl) ?_
    refine stB (fun hb2 => ?_) (fun hb2 => ?_)
    ·
      try simp only [decide_eq_true_eq, decide_eq_false_iff_not, Bool.not_eq_true', Bool.not_eq_false', Bool.not_eq_true, Bool.not_eq_false] at hb2
      refine stEnd (hK _ [(1, _), (3, _), (4, _), (14, _)] _ _ rfl ?_)
      clear hK K
      refine W.condT rfl ?_
      refine W.skip ?_
      refine thenN ?_
      refine W.seq ?_
      refine W.block ?_
      refine W.sR [1, 3, 4, 5] fun K hK => ?_
      refine st rfl rfl (e_fieldAddr t28 t22 rfl rfl) ?_
      refine st rfl rfl (e_load1 t22 rfl rfl (by repeat (first | exact look_same | assumption | refine look_ne (by omega) ?_ | refine look_keep (by assumption) (by omega) (by simp; try omega) ?_)) rfl) ?_
      refine st rfl rfl (e_move rfl) ?_
      refine st rfl rfl (e_idxSK _ t22 t62 rfl rfl rfl (by first | omega | decide)) ?_
      refine st rfl rfl (e_loadP t62 rfl rfl (by repeat (first | exact look_same | assumption | refine look_ne (by omega) ?_ | refine look_keep (by assumption) (by omega) (by simp; try omega) ?_)) (flat_at (by omega))) ?_
      refine st rfl rfl (e_alloc t62 rfl) ?_
      refine stN rfl (e_storeA t62 rfl rfl (by repeat (first | exact look_same | assumption | refine look_ne (by omega) ?_ | refine look_keep (by assumption) (by omega) (by simp; try omega) ?_)) rfl rfl rfl (by decide)) ?_
      refine stEnd (hK _ [(1, _), (3, _), (4, _), (5, _)] _ _ rfl ?_)
      clear hK K
      have hci := ci_bd hX (show k < 3 by omega) (hv.inn _ (at3_mem (show i < cs.length by omega)))
      refine W.sR [1, 3, 4, 5] fun K hK => ?_
      refine st rfl rfl (e_move rfl) ?_
      refine st rfl rfl (e_idxAK _ t62 t3 rfl rfl rfl (by first | omega | decide)) ?_
      refine st rfl rfl (e_load1 t3 rfl rfl (by repeat (first | exact look_same | assumption | refine look_ne (by omega) ?_ | refine look_keep (by assumption) (by omega) (by simp; try omega) ?_)) (tri_get (by omega))) ?_
      refine st rfl rfl (e_sub rfl rfl (inB _ (by omega))) ?_
      refine st rfl rfl (e_idxAK _ t62 t3 rfl rfl rfl (by first | omega | decide)) ?_
      refine stN rfl (e_store1 t3 rfl rfl rfl (by repeat (first | exact look_same | assumption | refine look_ne (by omega) ?_ | refine look_keep (by assumption) (by omega) (by simp; try omega) ?_)) (by simp [tri]; omega)) ?_
      refine stEnd (hK _ [(1, _), (3, _), (4, _), (5, _)] _ _ rfl ?_)
      clear hK K
      rw [low_list (show k < 3 by omega)]
      refine W.sR [1, 3, 4, 36] fun K hK => ?_
      refine st rfl rfl (e_move rfl) ?_
      refine st rfl rfl (e_idxAK _ t62 t3 rfl rfl rfl (by first | omega | decide)) ?_
      refine st rfl rfl (e_load1 t3 rfl rfl (by repeat (first | exact look_same | assumption | refine look_ne (by omega) ?_ | refine look_keep (by assumption) (by omega) (by simp; try omega) ?_)) (tri_get (by omega))) ?_
      refine st rfl rfl (e_geq rfl rfl) ?_
      refine st rfl rfl (e_move rfl) ?_
      refine stB (fun hge => ?_) (fun hge => ?_)
      ·
        try simp only [decide_eq_true_eq, decide_eq_false_iff_not, Bool.not_eq_true', Bool.not_eq_false', Bool.not_eq_true, Bool.not_eq_false] at hge
        refine st rfl rfl (e_loadA t28 rfl rfl (by repeat (first | exact look_same | assumption | refine look_ne (by omega) ?_ | refine look_keep (by assumption) (by omega) (by simp; try omega) ?_)) rfl rfl) ?_
        refine st rfl rfl (e_loadA t62 rfl rfl (by repeat (first | exact look_same | assumption | refine look_ne (by omega) ?_ | refine look_keep (by assumption) (by omega) (by simp; try omega) ?_)) rfl rfl) ?_
        refine stC rfl rfl rfl (spec_l2Has_s _ _ _ _ _ _ _ _ _ (by repeat (first | exact look_same | assumption | refine look_ne (by omega) ?_ | refine look_keep (by assumption) (by omega) (by simp; try omega) ?_)) (by omega)) ?_
        refine st rfl rfl (e_not rfl) ?_
        refine st rfl rfl (e_pickT rfl rfl) ?_
        refine stB (fun hm => ?_) (fun hm => ?_)
        ·
          try simp only [decide_eq_true_eq, decide_eq_false_iff_not, Bool.not_eq_true', Bool.not_eq_false', Bool.not_eq_true, Bool.not_eq_false] at hm
          refine stEnd (hK _ [(1, _), (3, _), (4, _), (36, _)] _ _ rfl ?_)
          clear hK K
          refine W.condT rfl ?_
          refine W.sR [2] fun K hK => ?_
          refine st rfl rfl (e_assign rfl) ?_
          refine stEnd (hK _ [(2, _)] _ _ rfl ?_)
          clear hK K
          refine W.ret ?_
          refine blockR ?_
          refine thenR ?_
          refine thenR ?_
          refine blockR ?_
          refine blockR ?_
          refine thenR ?_
          refine thenR ?_
          refine blockR ?_
          refine thenR ?_
          refine ⟨.inr rfl, Ends.v0 (by repeat (first | exact self_old | assumption | refine set_old ?_ (by omega) | refine keep_old (by assumption) ?_ (by omega) (by simp; try omega))) hfresh (by first | rfl | (simp [ltT, ltA, ltC, ltV]; try omega)) (res1 (resT rfl) rfl) ?_⟩
          first | rw [stairC_no (i := i) (k := k) (by omega) (by omega) (lowOk_no (by omega) hge hm)] | rw [stairC_yes (fun j hj => hq j (by omega))]
        ·
          try simp only [decide_eq_true_eq, decide_eq_false_iff_not, Bool.not_eq_true', Bool.not_eq_false', Bool.not_eq_true, Bool.not_eq_false] at hm
          refine stEnd (hK _ [(1, _), (3, _), (4, _), (36, _)] _ _ rfl ?_)
          clear hK K
          refine W.condF rfl ?_
          refine W.skip ?_
          refine blockN ?_
          refine thenN ?_
          refine W.rR [4, 1, 3] fun K hK => ?_
          refine st rfl rfl (e_move rfl) ?_
          refine st rfl rfl (e_add rfl rfl (inB _ (by omega))) ?_
          refine st rfl rfl (e_assign rfl) ?_
          refine stEnd (hK _ [(4, _), (1, _), (3, _)] _ _ rfl ?_)
          clear hK K
          exact roundN (V' := [(4, _)]) [4, 1, 3] rfl (by omega) (by repeat (first | exact Keeps.refl _ _ _ | assumption | refine Keeps.trans ?_ (by assumption) (by omega) (by simp; try omega) | refine Keeps.set ?_ (by first | exact Or.inl (by omega) | (simp; done) | (simp; omega)) | refine Keeps.del ?_ (by first | exact Or.inl (by omega) | (simp; done) | (simp; omega)) | refine Keeps.delO2 ?_ (by omega))) _ (by omega) ⟨k + 1, rfl, rfl, (by first | omega | assumption | simp_all), (all_succ hq2 (lowOk_yes2 hm))⟩
      ·
        try simp only [decide_eq_true_eq, decide_eq_false_iff_not, Bool.not_eq_true', Bool.not_eq_false', Bool.not_eq_true, Bool.not_eq_false] at hge
        refine stS rfl rfl ?_
        refine stS rfl rfl ?_
        refine stS rfl rfl ?_
        refine stS rfl rfl ?_
        refine st rfl rfl (e_pickF rfl rfl) ?_
        refine stEnd (hK _ [(1, _), (3, _), (4, _), (36, _)] _ _ rfl ?_)
        clear hK K
        refine W.condF rfl ?_
        refine W.skip ?_
        refine blockN ?_
        refine thenN ?_
        refine W.rR [4, 1, 3] fun K hK => ?_
        refine st rfl rfl (e_move rfl) ?_
        refine st rfl rfl (e_add rfl rfl (inB _ (by omega))) ?_
        refine st rfl rfl (e_assign rfl) ?_
        refine stEnd (hK _ [(4, _), (1, _), (3, _)] _ _ rfl ?_)
        clear hK K
        exact roundN (V' := [(4, _)]) [4, 1, 3] rfl (by omega) (by repeat (first | exact Keeps.refl _ _ _ | assumption | refine Keeps.trans ?_ (by assumption) (by omega) (by simp; try omega) | refine Keeps.set ?_ (by first | exact Or.inl (by omega) | (simp; done) | (simp; omega)) | refine Keeps.del ?_ (by first | exact Or.inl (by omega) | (simp; done) | (simp; omega)) | refine Keeps.delO2 ?_ (by omega))) _ (by omega) ⟨k + 1, rfl, rfl, (by first | omega | assumption | simp_all), (all_succ hq2 (lowOk_yes1 (by omega) hge))⟩
    ·
      try simp only [decide_eq_true_eq, decide_eq_false_iff_not, Bool.not_eq_true', Bool.not_eq_false', Bool.not_eq_true, Bool.not_eq_false] at hb2
      refine stEnd (hK _ [(1, _), (3, _), (4, _), (14, _)] _ _ rfl ?_)
      clear hK K
      refine W.condF rfl ?_
      refine W.exit ?_
      refine thenE ?_
      refine thenE ?_
      refine blockX ?_
      refine blockN ?_
      refine thenN ?_
      refine W.rR [3, 1] fun K hK => ?_
      refine st rfl rfl (e_move rfl) ?_
      refine st rfl rfl (e_add rfl rfl (inB _ (by omega))) ?_
      refine st rfl rfl (e_assign rfl) ?_
      refine stEnd (hK _ [(3, _), (1, _)] _ _ rfl ?_)
      clear hK K
      exact roundN (V' := [(3, _)]) [3, 1] rfl (by omega) (by repeat (first | exact Keeps.refl _ _ _ | assumption | refine Keeps.trans ?_ (by assumption) (by omega) (by simp; try omega) | refine Keeps.set ?_ (by first | exact Or.inl (by omega) | (simp; done) | (simp; omega)) | refine Keeps.del ?_ (by first | exact Or.inl (by omega) | (simp; done) | (simp; omega)) | refine Keeps.delO2 ?_ (by omega))) _ (by omega) ⟨i + 1, rfl, rfl, (by first | omega | assumption | simp_all), (all_succ hq (fun q hq3 => hq2 q (by omega)))⟩
  ·
    try simp only [decide_eq_true_eq, decide_eq_false_iff_not, Bool.not_eq_true', Bool.not_eq_false', Bool.not_eq_true, Bool.not_eq_false] at hb1
    refine stEnd (hK _ [(1, _), (3, _), (10, _)] _ _ rfl ?_)
    clear hK K
    refine W.condF rfl ?_
    refine W.exit ?_
    refine thenE ?_
    refine thenE ?_
    refine blockX ?_
    refine thenN ?_
    refine W.sR [2] fun K hK => ?_
    refine st rfl rfl (e_assign rfl) ?_
    refine stEnd (hK _ [(2, _)] _ _ rfl ?_)
    clear hK K
    refine W.ret ?_
    refine ⟨.inr rfl, Ends.v0 (by repeat (first | exact self_old | assumption | refine set_old ?_ (by omega) | refine keep_old (by assumption) ?_ (by omega) (by simp; try omega))) hfresh (by first | rfl | (simp [ltT, ltA, ltC, ltV]; try omega)) (res1 (resT rfl) rfl) ?_⟩
    first | rw [stairC_no (i := i) (k := k) (by omega) (by omega) (lowOk_no (by omega) hge hm)] | rw [stairC_yes (fun j hj => hq j (by omega))]
theorem spec_l5Good_s (X Y Z : Int) (b : Nat) (ro : Bool) (cs : List C) (H : Heap) (n : Nat) (hb : H b = some (.cells ro (flat cs))) (hlen : cs.length ≤ 1048576) : Fn Try.prog 91 [.agg #[.int .i64 X, .int .i64 Y, .int .i64 Z, .slice (some ⟨b, 0, none⟩) cs.length 3]] H n (.bool (isHeap X Y Z cs && stairC cs)) (H) (n) := by
  refine Fn.intro' Try.func91 rfl (by kernel_rfl) Try.ntmps91 (by simp) (by omega) fun hfresh => ?_
  have lt_hb := lt_fresh hfresh hb
  show W _ _ _ ⟨[(0, _)], _, _⟩ _
  refine W.sR [1] fun K hK => ?_
  refine st rfl rfl (e_boxA rfl) ?_
  refine st rfl rfl (e_assign rfl) ?_
  refine stEnd (hK _ [(1, _)] _ _ rfl ?_)
  clear hK K
  refine W.sR [2] fun K hK => ?_
  refine st rfl rfl (e_loadA t28 rfl rfl (by repeat (first | exact look_same | assumption | refine look_ne (by omega) ?_)) rfl rfl) ?_
  refine stC rfl rfl rfl (spec_l2Heap_s _ _ _ _ _ _ _ _ (by repeat (first | exact look_same | assumption | refine look_ne (by omega) ?_)) (by omega)) ?_
  refine st rfl rfl (e_move rfl) ?_
  refine stB (fun hh => ?_) (fun hh => ?_)
  ·
    try simp only [decide_eq_true_eq, decide_eq_false_iff_not, Bool.not_eq_true', Bool.not_eq_false', Bool.not_eq_true, Bool.not_eq_false] at hh
    have hv := valid_of hh
    refine st rfl rfl (e_loadA t28 rfl rfl (by repeat (first | exact look_same | assumption | refine look_ne (by omega) ?_)) rfl rfl) ?_
    refine stC rfl rfl rfl (spec_l5Stair_s _ _ _ _ _ _ _ _ (by repeat (first | exact look_same | assumption | refine look_ne (by omega) ?_)) (by omega) (by assumption)) ?_
    refine st rfl rfl (e_pickT rfl rfl) ?_
    refine st rfl rfl (e_assign rfl) ?_
    refine stEnd (hK _ [(2, _)] _ _ rfl ?_)
    clear hK K
    refine W.ret ?_
    refine ⟨.inr rfl, Ends.v0 (by repeat (first | exact self_old | assumption | refine set_old ?_ (by omega))) hfresh (by first | rfl | (simp [ltT, ltA, ltC, ltV]; try omega)) (res1 (resT rfl) rfl) ?_⟩
    simp [hh]
  ·
    try simp only [decide_eq_true_eq, decide_eq_false_iff_not, Bool.not_eq_true', Bool.not_eq_false', Bool.not_eq_true, Bool.not_eq_false] at hh
    refine stS rfl rfl ?_
    refine stS rfl rfl ?_
    refine st rfl rfl (e_pickF rfl rfl) ?_
    refine st rfl rfl (e_assign rfl) ?_
    refine stEnd (hK _ [(2, _)] _ _ rfl ?_)
    clear hK K
    refine W.ret ?_
    refine ⟨.inr rfl, Ends.v0 (by repeat (first | exact self_old | assumption | refine set_old ?_ (by omega))) hfresh (by first | rfl | (simp [ltT, ltA, ltC, ltV]; try omega)) (res1 (resT rfl) rfl) ?_⟩
    simp [hh]
theorem bsl22_0 {H : Heap} {n : Nat} : cBuildSlice Try.prog 22 0 H n [] = some (.slice (some ⟨n, 0, none⟩) 0 3, H.set n (.cells false []), n + 1) := by
  simp [cBuildSlice, t22, t62, fillC, zeros, konst0, putC, Value.cells]
theorem bld28_0_1_2_3 (v0 : Value) (v1 : Value) (v2 : Value) (v3 : Value) (h0 : oneV v0 = true) (h1 : oneV v1 = true) (h2 : oneV v2 = true) (h3 : oneV v3 = true) : cBuild Try.prog 28 [(0, v0), (1, v1), (2, v2), (3, v3)] = some (.agg #[v0, v1, v2, v3]) := by
  simp [cBuild, t28, t3, t22, fieldsOk, placesC, fillC, konst0, putC, (oneV_cells h0).1, (oneV_cells h1).1, (oneV_cells h2).1, (oneV_cells h3).1]
theorem spec_l2Empty_s (X Y Z : Int) (H : Heap) (n : Nat) : Fn Try.prog 117 [.int .i64 X, .int .i64 Y, .int .i64 Z] H n (.agg #[.int .i64 X, .int .i64 Y, .int .i64 Z, .slice (some ⟨n, 0, none⟩) 0 3]) (H.set n (.cells false [])) (n + 1) := by
  refine Fn.intro' Try.func117 rfl (by kernel_rfl) Try.ntmps117 (by simp) (by omega) fun hfresh => ?_
  show W _ _ _ ⟨[(0, _), (1, _), (2, _)], _, _⟩ _
  refine W.sR [0, 1, 2, 6] fun K hK => ?_
  refine st rfl rfl (e_alloc t28 rfl) ?_
  refine stEnd (hK _ [(0, _), (1, _), (2, _), (6, _)] _ _ rfl ?_)
  clear hK K
  refine W.sR [6] fun K hK => ?_
  refine st rfl rfl (e_move rfl) ?_
  refine st rfl rfl (e_move rfl) ?_
  refine st rfl rfl (e_move rfl) ?_
  refine st rfl rfl (e_buildSlice rfl rfl (bsl22_0)) ?_
  refine st rfl rfl (e_build rfl rfl (bld28_0_1_2_3 _ _ _ _ rfl rfl rfl rfl)) ?_
  refine stN rfl (e_storeA t28 rfl rfl (by repeat (first | exact look_same | assumption | refine look_ne (by omega) ?_)) rfl rfl rfl (by decide)) ?_
  refine stEnd (hK _ [(6, _)] _ _ rfl ?_)
  clear hK K
  refine W.ret ?_
  refine ⟨.inr rfl, Ends.v1 (n + 1) (by omega) (by repeat (first | exact self_old | assumption | refine set_old ?_ (by omega))) hfresh (by repeat (first | exact look_same | assumption | refine look_ne (by omega) ?_)) ?_ rfl (by simp [ltT, ltA, ltC, ltV]; try omega) (res1 (resC t28 rfl rfl (by repeat (first | exact look_same | assumption | refine look_ne (by omega) ?_)) rfl rfl) rfl) ?_⟩
  · rfl
  · first | rfl | simp [renT, renV, renC, renA, one]
theorem bsl22_1 {H : Heap} {n : Nat} {v0_0 : Value} {v0_1 : Value} {v0_2 : Value} : cBuildSlice Try.prog 22 1 H n [(0, .agg #[v0_0, v0_1, v0_2])] = some (.slice (some ⟨n, 0, none⟩) 1 3, H.set n (.cells false [v0_0, v0_1, v0_2]), n + 1) := by
  simp [cBuildSlice, t22, t62, fillC, zeros, konst0, putC, Value.cells]
theorem spec_l2Without_s (X Y Z : Int) (b : Nat) (ro : Bool) (cs : List C) (c : C) (H : Heap) (n : Nat) (hb : H b = some (.cells ro (flat cs))) (hlen : cs.length ≤ 1048576) : Fn Try.prog 118 [.agg #[.int .i64 X, .int .i64 Y, .int .i64 Z, .slice (some ⟨b, 0, none⟩) cs.length 3], .agg #[.int .i64 c.1, .int .i64 c.2.1, .int .i64 c.2.2]] H n (.agg #[.int .i64 X, .int .i64 Y, .int .i64 Z, .slice (some ⟨n, 0, none⟩) (without cs c).length 3]) (H.set n (.cells false (flat (without cs c)))) (n + 1) := by
  refine Fn.intro' Try.func118 rfl (by kernel_rfl) Try.ntmps118 (by simp) (by omega) fun hfresh => ?_
  have lt_hb := lt_fresh hfresh hb
  show W _ _ _ ⟨[(0, _), (1, _)], _, _⟩ _
  refine W.sR [2, 3, 4] fun K hK => ?_
  refine st rfl rfl (e_boxA rfl) ?_
  refine st rfl rfl (e_boxA rfl) ?_
  refine st rfl rfl (e_alloc t28 rfl) ?_
  refine stEnd (hK _ [(2, _), (3, _), (4, _)] _ _ rfl ?_)
  clear hK K
  refine W.sR [2, 3, 4, 5] fun K hK => ?_
  refine st rfl rfl (e_fieldAddr t28 t3 rfl rfl) ?_
  refine st rfl rfl (e_load1 t3 rfl rfl (by repeat (first | exact look_same | assumption | refine look_ne (by omega) ?_ | refine look_del (by omega) ?_ | refine look_keep (by assumption) (by omega) (by simp; try omega) ?_)) rfl) ?_
  refine st rfl rfl (e_fieldAddr t28 t3 rfl rfl) ?_
  refine st rfl rfl (e_load1 t3 rfl rfl (by repeat (first | exact look_same | assumption | refine look_ne (by omega) ?_ | refine look_del (by omega) ?_ | refine look_keep (by assumption) (by omega) (by simp; try omega) ?_)) rfl) ?_
  refine st rfl rfl (e_fieldAddr t28 t3 rfl rfl) ?_
  refine st rfl rfl (e_load1 t3 rfl rfl (by repeat (first | exact look_same | assumption | refine look_ne (by omega) ?_ | refine look_del (by omega) ?_ | refine look_keep (by assumption) (by omega) (by simp; try omega) ?_)) rfl) ?_
  refine stC rfl rfl rfl (spec_l2Empty_s _ _ _ _ _ ) ?_
  refine st rfl rfl (e_alloc t28 rfl) ?_
  refine stN rfl (e_storeA t28 rfl rfl (by repeat (first | exact look_same | assumption | refine look_ne (by omega) ?_ | refine look_del (by omega) ?_ | refine look_keep (by assumption) (by omega) (by simp; try omega) ?_)) rfl rfl rfl (by decide)) ?_
  refine stEnd (hK _ [(2, _), (3, _), (4, _), (5, _)] _ _ rfl ?_)
  clear hK K
  refine W.seq ?_
  refine W.sR [2, 3, 4, 5, 6] fun K hK => ?_
  refine st rfl rfl (e_assign rfl) ?_
  refine stEnd (hK _ [(2, _), (3, _), (4, _), (5, _), (6, _)] _ _ rfl ?_)
  clear hK K
  refine W.block ?_
  refine W.ord [6, 2, 3, 4, 5] (ts' := [(6, _)] ++ [(2, _), (3, _), (4, _), (5, _)]) rfl ?_
  refine W.loopC [(6, _)] [n + 1 + 1 + 1 + 1, n + 1 + 1 + 1] (fun κ V G μ => ∃ i r : Nat, V = [(6, .int .i64 (i : Nat))] ∧ κ = (cs).length - i ∧ (i ≤ (cs).length) ∧ ((r = n + 1 + 1 + 1 ∨ n + 1 + 1 + 1 + 1 + 1 ≤ r) ∧ r < μ) ∧ (G (n + 1 + 1 + 1 + 1) = some (.cells false [.int .i64 X, .int .i64 Y, .int .i64 Z, .slice (some ⟨r, 0, none⟩) (filN (fun d => !decide (d = c)) (cs) i).length 3])) ∧ (G r = some (.cells false (flat (filN (fun d => !decide (d = c)) (cs) i))))) _ ⟨0, n + 1 + 1 + 1, rfl, rfl, (by first | omega | assumption | rfl | simp_all), (by omega), (by rw [filN_zero]; exact (by repeat (first | exact look_same | assumption | refine look_ne (by omega) ?_ | refine look_keep (by assumption) (by omega) (by simp; try omega) ?_))), (by rw [filN_zero]; exact (by repeat (first | exact look_same | assumption | refine look_ne (by omega) ?_ | refine look_keep (by assumption) (by omega) (by simp; try omega) ?_)))⟩ fun κ V G μ hinv hμ hkeep hfr => ?_
  obtain ⟨i, r, rfl, rfl, hi, hr, hO, hG⟩ := hinv
  refine W.seq ?_
  refine W.sR [2, 3, 4, 5, 6, 18] fun K hK => ?_
  refine st rfl rfl (e_move rfl) ?_
  refine st rfl rfl (e_fieldAddr t28 t22 rfl rfl) ?_
  refine st rfl rfl (e_load1 t22 rfl rfl (by repeat (first | exact look_same | assumption | refine look_ne (by omega) ?_ | refine look_del (by omega) ?_ | refine look_keep (by assumption) (by omega) (by simp; try omega) ?_)) rfl) ?_
  refine st rfl rfl (e_len t22 rfl) ?_
  refine st rfl rfl (e_lss rfl rfl) ?_
  refine stB (fun hb1 => ?_) (fun hb1 => ?_)
  ·
    try simp only [decide_eq_true_eq, decide_eq_false_iff_not, Bool.not_eq_true', Bool.not_eq_false', Bool.not_eq_true, Bool.not_eq_false] at hb1
    refine stEnd (hK _ [(2, _), (3, _), (4, _), (5, _), (6, _), (18, _)] _ _ rfl ?_)
    clear hK K
    refine W.condT rfl ?_
    refine W.skip ?_
    refine thenN ?_
    refine W.seq ?_
    refine W.block ?_
    refine W.sD [2, 3, 4, 5, 6, 27] [0, 1, 0, 7, 15, 0, 63] (by kernel_rfl) (by kernel_rfl) fun K hK => ?_
    refine dP rfl rfl rfl (e_fieldAddr t28 t22 rfl rfl) ?_
    refine dL rfl rfl rfl (by omega) (accB_ok rfl) (e_load1 t22 rfl rfl (by repeat (first | exact look_same | assumption | refine look_ne (by omega) ?_ | refine look_del (by omega) ?_ | refine look_keep (by assumption) (by omega) (by simp; try omega) ?_)) rfl) ?_
    refine dP rfl rfl rfl (e_move rfl) ?_
    refine dP rfl rfl rfl (e_idxSK _ t22 t62 rfl rfl rfl (by first | omega | decide)) ?_
    refine dL rfl rfl rfl (by omega) (accB_ok rfl) (e_loadP t62 rfl rfl (by repeat (first | exact look_same | assumption | refine look_ne (by omega) ?_ | refine look_del (by omega) ?_ | refine look_keep (by assumption) (by omega) (by simp; try omega) ?_)) (flat_at (by omega))) ?_
    refine dL rfl rfl rfl (by omega) (accB_ok rfl) (e_loadA t62 rfl rfl (by repeat (first | exact look_same | assumption | refine look_ne (by omega) ?_ | refine look_del (by omega) ?_ | refine look_keep (by assumption) (by omega) (by simp; try omega) ?_)) rfl rfl) ?_
    refine dP rfl rfl rfl (e_neqA3 t62 t3 rfl rfl) ?_
    refine dB (fun hs7 => ?_) (fun hs7 => ?_)
    ·
      try simp only [decide_eq_true_eq, decide_eq_false_iff_not, Bool.not_eq_true', Bool.not_eq_false', Bool.not_eq_true, Bool.not_eq_false] at hs7
      refine dEnd (hK _ [(2, _), (3, _), (4, _), (5, _), (6, _), (27, _)] _ _ rfl ?_)
      clear hK K
      refine W.condT rfl ?_
      refine W.rD [2, 3, 4, 5, 6] [0, 1, 0, 4, 0, 28, 60, 124, 255, 511, 1023] (by kernel_rfl) (by kernel_rfl) fun K hK => ?_
      refine dP rfl rfl rfl (e_fieldAddr t28 t22 rfl rfl) ?_
      refine dL rfl rfl rfl (by omega) (accB_ok rfl) (e_load1 t22 rfl rfl (by repeat (first | exact look_same | assumption | refine look_ne (by omega) ?_ | refine look_del (by omega) ?_ | refine look_keep (by assumption) (by omega) (by simp; try omega) ?_)) rfl) ?_
      refine dP rfl rfl rfl (e_fieldAddr t28 t22 rfl rfl) ?_
      refine dL rfl rfl rfl (by omega) (accB_ok rfl) (e_load1 t22 rfl rfl (by repeat (first | exact look_same | assumption | refine look_ne (by omega) ?_ | refine look_del (by omega) ?_ | refine look_keep (by assumption) (by omega) (by simp; try omega) ?_)) rfl) ?_
      refine dP rfl rfl rfl (e_move rfl) ?_
      refine dP rfl rfl rfl (e_idxSK _ t22 t62 rfl rfl rfl (by first | omega | decide)) ?_
      refine dL rfl rfl rfl (by omega) (accB_ok rfl) (e_loadP t62 rfl rfl (by repeat (first | exact look_same | assumption | refine look_ne (by omega) ?_ | refine look_del (by omega) ?_ | refine look_keep (by assumption) (by omega) (by simp; try omega) ?_)) (flat_at (by omega))) ?_
      refine dN rfl rfl rfl (e_buildSlice rfl rfl (bsl22_1)) ?_
      refine dA rfl rfl rfl rfl (app_any t22 t22 t62 rfl rfl (by repeat (first | exact look_same | assumption | refine look_ne (by omega) ?_ | refine look_del (by omega) ?_ | refine look_keep (by assumption) (by omega) (by simp; try omega) ?_ | refine look_hide (by omega) (by first | exact List.not_mem_nil | (simp [hidden, Nat.testBit]; done) | (simp [hidden, Nat.testBit]; omega)) ?_)) (take_row (m := 1) (by repeat (first | exact look_same | assumption | refine look_ne (by omega) ?_ | refine look_del (by omega) ?_ | refine look_keep (by assumption) (by omega) (by simp; try omega) ?_ | refine look_hide (by omega) (by first | exact List.not_mem_nil | (simp [hidden, Nat.testBit]; done) | (simp [hidden, Nat.testBit]; omega)) ?_)) rfl) (by decide) (flat_length _) (by first | rfl | (simp [flat_length]; done) | (simp [flat_length]; omega)) (by have := filN_len (fun d => !decide (d = c)) (cs) i; omega) (by omega)) (by omega) (by first | exact List.not_mem_nil | (simp [hidden, Nat.testBit]; done) | (simp [hidden, Nat.testBit]; omega)) (by first | exact List.not_mem_nil | (simp [hidden, Nat.testBit]; done) | (simp [hidden, Nat.testBit]; omega)) (fun n' => (accB_ok rfl)) (fun p7 G7 n7 hp7 hk7 hn7 hl7 hb7 => ?_)
      refine dP rfl rfl rfl (e_fieldAddr t28 t22 rfl rfl) ?_
      refine dSt rfl rfl (e_store1 t22 rfl rfl rfl (by repeat (first | exact look_same | assumption | refine look_ne (by omega) ?_ | refine look_del (by omega) ?_ | refine look_keep (by assumption) (by omega) (by simp; try omega) ?_ | refine look_hide (by omega) (by first | exact List.not_mem_nil | (simp [hidden, Nat.testBit]; done) | (simp [hidden, Nat.testBit]; omega)) ?_)) (by first | decide | (simp only [ints_length, flat_length]; omega) | (simp; done) | (simp; omega))) (by omega) (by first | exact List.not_mem_nil | (simp [hidden, Nat.testBit]; done) | (simp [hidden, Nat.testBit]; omega)) (accB_ok rfl) ?_
      refine dEnd (hK _ [(2, _), (3, _), (4, _), (5, _), (6, _)] _ _ rfl ?_)
      clear hK K
      refine blockN ?_
      refine thenN ?_
      refine W.rR [6, 2, 3, 4, 5] fun K hK => ?_
      refine st rfl rfl (e_move rfl) ?_
      refine st rfl rfl (e_add rfl rfl (inB _ (by omega))) ?_
      refine st rfl rfl (e_assign rfl) ?_
      refine stEnd (hK _ [(6, _), (2, _), (3, _), (4, _), (5, _)] _ _ rfl ?_)
      clear hK K
      exact roundN (V' := [(6, _)]) [6, 2, 3, 4, 5] rfl (by omega) (by repeat (first | exact Keeps.refl _ _ _ | assumption | refine Keeps.trans ?_ (by assumption) (by omega) (by simp; try omega) | refine Keeps.set ?_ (by first | exact Or.inl (by omega) | (simp; done) | (simp; omega)) | refine Keeps.del ?_ (by first | exact Or.inl (by omega) | (simp; done) | (simp; omega)) | refine Keeps.delO2 ?_ (by omega))) _ (by omega) ⟨i + 1, p7, rfl, rfl, (by first | omega | assumption | simp_all), (by omega), (look_same.trans (congrArg some (congrArg (Blk.cells false) (by rw [filN_T (by omega) (by simp only [hs7, decide_true, decide_false, Bool.not_true, Bool.not_false])]; simp)))), (look_ne (by omega) (hp7.trans (congrArg some (congrArg (Blk.cells false) (by rw [filN_T (by omega) (by simp only [hs7, decide_true, decide_false, Bool.not_true, Bool.not_false])]; exact flat_snoc _ _)))))⟩
    ·
      try simp only [decide_eq_true_eq, decide_eq_false_iff_not, Bool.not_eq_true', Bool.not_eq_false', Bool.not_eq_true, Bool.not_eq_false] at hs7
      refine dEnd (hK _ [(2, _), (3, _), (4, _), (5, _), (6, _), (27, _)] _ _ rfl ?_)
      clear hK K
      refine W.condF rfl ?_
      refine W.skip ?_
      refine blockN ?_
      refine thenN ?_
      refine W.rR [6, 2, 3, 4, 5] fun K hK => ?_
      refine st rfl rfl (e_move rfl) ?_
      refine st rfl rfl (e_add rfl rfl (inB _ (by omega))) ?_
      refine st rfl rfl (e_assign rfl) ?_
      refine stEnd (hK _ [(6, _), (2, _), (3, _), (4, _), (5, _)] _ _ rfl ?_)
      clear hK K
      exact roundN (V' := [(6, _)]) [6, 2, 3, 4, 5] rfl (by omega) (by repeat (first | exact Keeps.refl _ _ _ | assumption | refine Keeps.trans ?_ (by assumption) (by omega) (by simp; try omega) | refine Keeps.set ?_ (by first | exact Or.inl (by omega) | (simp; done) | (simp; omega)) | refine Keeps.del ?_ (by first | exact Or.inl (by omega) | (simp; done) | (simp; omega)) | refine Keeps.delO2 ?_ (by omega))) _ (by omega) ⟨i + 1, r, rfl, rfl, (by first | omega | assumption | simp_all), (by omega), (by rw [filN_F (by omega) (by simp only [hs7, decide_true, decide_false, Bool.not_true, Bool.not_false])]; exact (by repeat (first | exact look_same | assumption | refine look_ne (by omega) ?_ | refine look_keep (by assumption) (by omega) (by simp; try omega) ?_))), (by rw [filN_F (by omega) (by simp only [hs7, decide_true, decide_false, Bool.not_true, Bool.not_false])]; exact (by repeat (first | exact look_same | assumption | refine look_ne (by omega) ?_ | refine look_keep (by assumption) (by omega) (by simp; try omega) ?_)))⟩
  ·
    try simp only [decide_eq_true_eq, decide_eq_false_iff_not, Bool.not_eq_true', Bool.not_eq_false', Bool.not_eq_true, Bool.not_eq_false] at hb1
    refine stEnd (hK _ [(2, _), (3, _), (4, _), (5, _), (6, _), (18, _)] _ _ rfl ?_)
    clear hK K
    refine W.condF rfl ?_
    refine W.exit ?_
    refine thenE ?_
    refine thenE ?_
    refine blockX ?_
    refine thenN ?_
    obtain rfl : i = cs.length := by omega
    rw [filN_all] at hO hG
    refine W.sR [4] fun K hK => ?_
    refine st rfl rfl (e_loadA t28 rfl rfl (by repeat (first | exact look_same | assumption | refine look_ne (by omega) ?_ | refine look_del (by omega) ?_ | refine look_keep (by assumption) (by omega) (by simp; try omega) ?_)) rfl rfl) ?_
    refine stN rfl (e_storeA t28 rfl rfl (by repeat (first | exact look_same | assumption | refine look_ne (by omega) ?_ | refine look_del (by omega) ?_ | refine look_keep (by assumption) (by omega) (by simp; try omega) ?_)) rfl rfl rfl (by decide)) ?_
    refine stEnd (hK _ [(4, _)] _ _ rfl ?_)
    clear hK K
    refine W.ret ?_
    refine ⟨.inr rfl, Ends.v1 (r) (by omega) (by repeat (first | exact self_old | assumption | refine set_old ?_ (by omega) | refine del_old ?_ (by omega) | refine keep_old (by assumption) ?_ (by omega) (by simp; try omega))) hfresh (by repeat (first | exact look_same | assumption | refine look_ne (by omega) ?_ | refine look_del (by omega) ?_ | refine look_keep (by assumption) (by omega) (by simp; try omega) ?_)) ?_ (by first | exact flat_plain _ | exact ints_plain _) (by simp [ltT, ltA, ltC, ltV]; try omega) (res1 (resC t28 rfl rfl (by repeat (first | exact look_same | assumption | refine look_ne (by omega) ?_ | refine look_del (by omega) ?_ | refine look_keep (by assumption) (by omega) (by simp; try omega) ?_)) rfl rfl) rfl) ?_⟩
    · rfl
    · simp [renT, renV, renC, renA, one, without]
theorem spec_l5Corners_s (X Y Z : Int) (b : Nat) (ro : Bool) (cs : List C) (H : Heap) (n : Nat) (hb : H b = some (.cells ro (flat cs))) (hlen : cs.length ≤ 1048576) (hv : Valid X Y Z cs) : Fn Try.prog 144 [.agg #[.int .i64 X, .int .i64 Y, .int .i64 Z, .slice (some ⟨b, 0, none⟩) cs.length 3]] H n (.slice (some ⟨n, 0, none⟩) (cs.filter fun c => stairC (without cs c)).length 3) (H.set n (.cells false (flat (cs.filter fun c => stairC (without cs c))))) (n + 1) := by
  refine Fn.intro' Try.func144 rfl (by kernel_rfl) Try.ntmps144 (by simp) (by omega) fun hfresh => ?_
  have lt_hb := lt_fresh hfresh hb
  have hX := hv.box
  have hvl := vol_le hX
  show W _ _ _ ⟨[(0, _)], _, _⟩ _
  refine W.sR [1] fun K hK => ?_
  refine st rfl rfl (e_boxA rfl) ?_
  refine st rfl rfl (e_assign rfl) ?_
  refine stEnd (hK _ [(1, _)] _ _ rfl ?_)
  clear hK K
  refine W.sR [1, 3] fun K hK => ?_
  refine st rfl rfl (e_buildSlice rfl rfl (bsl22_0)) ?_
  refine st rfl rfl (e_assign rfl) ?_
  refine stEnd (hK _ [(1, _), (3, _)] _ _ rfl ?_)
  clear hK K
  refine W.seq ?_
  refine W.sR [1, 3, 4] fun K hK => ?_
  refine st rfl rfl (e_assign rfl) ?_
  refine stEnd (hK _ [(1, _), (3, _), (4, _)] _ _ rfl ?_)
  clear hK K
  refine W.block ?_
  refine W.ord [3, 4, 1] (ts' := [(3, _), (4, _)] ++ [(1, _)]) rfl ?_
  refine W.loopC [(3, _), (4, _)] [n + 1] (fun κ V G μ => ∃ i p : Nat, V = [(3, .slice (some ⟨p, 0, none⟩) (filN (fun c => stairC (without cs c)) cs i).length 3), (4, .int .i64 (i : Nat))] ∧ κ = cs.length - i ∧ (i ≤ cs.length) ∧ ((p = n + 1 ∨ n + 1 + 1 ≤ p) ∧ p < μ) ∧ (G p = some (.cells false (flat (filN (fun c => stairC (without cs c)) cs i))))) _ ⟨0, n + 1, rfl, rfl, (by first | omega | assumption | rfl | simp_all), (by omega), look_same⟩ fun κ V G μ hinv hμ hkeep hfr => ?_
  obtain ⟨i, p, rfl, rfl, hi, hp, hG⟩ := hinv
  refine W.seq ?_
  refine W.sR [1, 3, 4, 10] fun K hK => ?_
  refine st rfl rfl (e_move rfl) ?_
  refine st rfl rfl (e_fieldAddr t28 t22 rfl rfl) ?_
  refine st rfl rfl (e_load1 t22 rfl rfl (by repeat (first | exact look_same | assumption | refine look_ne (by omega) ?_ | refine look_del (by omega) ?_ | refine look_keep (by assumption) (by omega) (by simp; try omega) ?_)) rfl) ?_
  refine st rfl rfl (e_len t22 rfl) ?_
  refine st rfl rfl (e_lss rfl rfl) ?_
  refine stB (fun hb1 => ?_) (fun hb1 => ?_)
  ·
    try simp only [decide_eq_true_eq, decide_eq_false_iff_not, Bool.not_eq_true', Bool.not_eq_false', Bool.not_eq_true, Bool.not_eq_false] at hb1
    refine stEnd (hK _ [(1, _), (3, _), (4, _), (10, _)] _ _ rfl ?_)
    clear hK K
    refine W.condT rfl ?_
    refine W.skip ?_
    refine thenN ?_
    refine W.seq ?_
    refine W.block ?_
    have hwv := without_valid hv (at3 cs i)
    have hwl := hwv.len_vol
    refine W.sD [1, 3, 4, 20] [0, 0, 2, 0, 14, 30, 63, 127] (by kernel_rfl) (by kernel_rfl) fun K hK => ?_
    refine dL rfl rfl rfl (by omega) (accB_ok rfl) (e_loadA t28 rfl rfl (by repeat (first | exact look_same | assumption | refine look_ne (by omega) ?_ | refine look_del (by omega) ?_ | refine look_keep (by assumption) (by omega) (by simp; try omega) ?_)) rfl rfl) ?_
    refine dP rfl rfl rfl (e_fieldAddr t28 t22 rfl rfl) ?_
    refine dL rfl rfl rfl (by omega) (accB_ok rfl) (e_load1 t22 rfl rfl (by repeat (first | exact look_same | assumption | refine look_ne (by omega) ?_ | refine look_del (by omega) ?_ | refine look_keep (by assumption) (by omega) (by simp; try omega) ?_)) rfl) ?_
    refine dP rfl rfl rfl (e_move rfl) ?_
    refine dP rfl rfl rfl (e_idxSK _ t22 t62 rfl rfl rfl (by first | omega | decide)) ?_
    refine dL rfl rfl rfl (by omega) (accB_ok rfl) (e_loadP t62 rfl rfl (by repeat (first | exact look_same | assumption | refine look_ne (by omega) ?_ | refine look_del (by omega) ?_ | refine look_keep (by assumption) (by omega) (by simp; try omega) ?_)) (flat_at (by omega))) ?_
    refine dC1 rfl rfl rfl rfl (spec_l2Without_s _ _ _ _ _ _ _ _ _ (by repeat (first | exact look_same | assumption | refine look_ne (by omega) ?_ | refine look_del (by omega) ?_ | refine look_keep (by assumption) (by omega) (by simp; try omega) ?_ | refine look_hide (by omega) (by first | exact List.not_mem_nil | (simp [hidden, Nat.testBit]; done) | (simp [hidden, Nat.testBit]; omega)) ?_)) (by omega)) (accB_ok rfl) (by first | exact List.not_mem_nil | (simp [hidden, Nat.testBit]; done) | (simp [hidden, Nat.testBit]; omega)) ?_
    refine dC rfl rfl rfl rfl (spec_l5Stair_s _ _ _ _ _ _ _ _ (by repeat (first | exact look_same | assumption | refine look_ne (by omega) ?_ | refine look_del (by omega) ?_ | refine look_keep (by assumption) (by omega) (by simp; try omega) ?_ | refine look_hide (by omega) (by first | exact List.not_mem_nil | (simp [hidden, Nat.testBit]; done) | (simp [hidden, Nat.testBit]; omega)) ?_)) (by omega) hwv) (accB_ok rfl) ?_
    refine dB (fun hs7 => ?_) (fun hs7 => ?_)
    ·
      try simp only [decide_eq_true_eq, decide_eq_false_iff_not, Bool.not_eq_true', Bool.not_eq_false', Bool.not_eq_true, Bool.not_eq_false] at hs7
      refine dEnd (hK _ [(1, _), (3, _), (4, _), (20, _)] _ _ rfl ?_)
      clear hK K
      refine W.condT rfl ?_
      refine W.rR [1, 3, 4] fun K hK => ?_
      refine st rfl rfl (e_move rfl) ?_
      refine st rfl rfl (e_fieldAddr t28 t22 rfl rfl) ?_
      refine st rfl rfl (e_load1 t22 rfl rfl (by repeat (first | exact look_same | assumption | refine look_ne (by omega) ?_ | refine look_del (by omega) ?_ | refine look_keep (by assumption) (by omega) (by simp; try omega) ?_)) rfl) ?_
      refine st rfl rfl (e_move rfl) ?_
      refine st rfl rfl (e_idxSK _ t22 t62 rfl rfl rfl (by first | omega | decide)) ?_
      refine st rfl rfl (e_loadP t62 rfl rfl (by repeat (first | exact look_same | assumption | refine look_ne (by omega) ?_ | refine look_del (by omega) ?_ | refine look_keep (by assumption) (by omega) (by simp; try omega) ?_)) (flat_at (by omega))) ?_
      refine st rfl rfl (e_buildSlice rfl rfl (bsl22_1)) ?_
      refine st rfl rfl (e_append t22 t22 t62 rfl rfl (by repeat (first | exact look_same | assumption | refine look_ne (by omega) ?_ | refine look_del (by omega) ?_ | refine look_keep (by assumption) (by omega) (by simp; try omega) ?_)) (by repeat (first | exact look_same | assumption | refine look_ne (by omega) ?_ | refine look_del (by omega) ?_ | refine look_keep (by assumption) (by omega) (by simp; try omega) ?_)) (by decide) (flat_length _) rfl (by have := filN_len (fun c => stairC (without cs c)) cs i; omega)) ?_
      refine st rfl rfl (e_assign rfl) ?_
      refine stEnd (hK _ [(1, _), (3, _), (4, _)] _ _ rfl ?_)
      clear hK K
      refine blockN ?_
      refine thenN ?_
      refine W.rR [3, 4, 1] fun K hK => ?_
      refine st rfl rfl (e_move rfl) ?_
      refine st rfl rfl (e_add rfl rfl (inB _ (by omega))) ?_
      refine st rfl rfl (e_assign rfl) ?_
      refine stEnd (hK _ [(3, _), (4, _), (1, _)] _ _ rfl ?_)
      clear hK K
      exact roundN (V' := [(3, _), (4, _)]) [3, 4, 1] rfl (by omega) (by repeat (first | exact Keeps.refl _ _ _ | assumption | refine Keeps.trans ?_ (by assumption) (by omega) (by simp; try omega) | refine Keeps.set ?_ (by first | exact Or.inl (by omega) | (simp; done) | (simp; omega)) | refine Keeps.del ?_ (by first | exact Or.inl (by omega) | (simp; done) | (simp; omega)) | refine Keeps.delO2 ?_ (by omega))) _ (by omega) ⟨i + 1, μ + 1 + 1, (by first | (rw [filN_T (by omega) hs7]; simp) | (rw [filN_F (by omega) hs7]; rfl)), rfl, (by first | omega | assumption | simp_all), (by omega), (by first | exact (look_same.trans (congrArg some (congrArg (Blk.cells false) (by rw [filN_T (by omega) hs7]; exact flat_snoc _ _)))) | (rw [filN_F (by omega) hs7]; exact (by repeat (first | exact look_same | assumption | refine look_ne (by omega) ?_ | refine look_keep (by assumption) (by omega) (by simp; try omega) ?_))))⟩
    ·
      try simp only [decide_eq_true_eq, decide_eq_false_iff_not, Bool.not_eq_true', Bool.not_eq_false', Bool.not_eq_true, Bool.not_eq_false] at hs7
      refine dEnd (hK _ [(1, _), (3, _), (4, _), (20, _)] _ _ rfl ?_)
      clear hK K
      refine W.condF rfl ?_
      refine W.skip ?_
      refine blockN ?_
      refine thenN ?_
      refine W.rR [3, 4, 1] fun K hK => ?_
      refine st rfl rfl (e_move rfl) ?_
      refine st rfl rfl (e_add rfl rfl (inB _ (by omega))) ?_
      refine st rfl rfl (e_assign rfl) ?_
      refine stEnd (hK _ [(3, _), (4, _), (1, _)] _ _ rfl ?_)
      clear hK K
      exact roundN (V' := [(3, _), (4, _)]) [3, 4, 1] rfl (by omega) (by repeat (first | exact Keeps.refl _ _ _ | assumption | refine Keeps.trans ?_ (by assumption) (by omega) (by simp; try omega) | refine Keeps.set ?_ (by first | exact Or.inl (by omega) | (simp; done) | (simp; omega)) | refine Keeps.del ?_ (by first | exact Or.inl (by omega) | (simp; done) | (simp; omega)) | refine Keeps.delO2 ?_ (by omega))) _ (by omega) ⟨i + 1, p, (by first | (rw [filN_T (by omega) hs7]; simp) | (rw [filN_F (by omega) hs7]; rfl)), rfl, (by first | omega | assumption | simp_all), (by omega), (by first | exact (look_same.trans (congrArg some (congrArg (Blk.cells false) (by rw [filN_T (by omega) hs7]; exact flat_snoc _ _)))) | (rw [filN_F (by omega) hs7]; exact (by repeat (first | exact look_same | assumption | refine look_ne (by omega) ?_ | refine look_keep (by assumption) (by omega) (by simp; try omega) ?_))))⟩
  ·
    try simp only [decide_eq_true_eq, decide_eq_false_iff_not, Bool.not_eq_true', Bool.not_eq_false', Bool.not_eq_true, Bool.not_eq_false] at hb1
    refine stEnd (hK _ [(1, _), (3, _), (4, _), (10, _)] _ _ rfl ?_)
    clear hK K
    refine W.condF rfl ?_
    refine W.exit ?_
    refine thenE ?_
    refine thenE ?_
    refine blockX ?_
    refine thenN ?_
    obtain rfl : i = cs.length := by omega
    rw [filN_all] at hG
    refine W.sR [2] fun K hK => ?_
    refine st rfl rfl (e_move rfl) ?_
    refine st rfl rfl (e_assign rfl) ?_
    refine stEnd (hK _ [(2, _)] _ _ rfl ?_)
    clear hK K
    refine W.ret ?_
    refine ⟨.inr rfl, Ends.v1 (p) (by omega) (by repeat (first | exact self_old | assumption | refine set_old ?_ (by omega) | refine del_old ?_ (by omega) | refine keep_old (by assumption) ?_ (by omega) (by simp; try omega))) hfresh (by repeat (first | exact look_same | assumption | refine look_ne (by omega) ?_ | refine look_del (by omega) ?_ | refine look_keep (by assumption) (by omega) (by simp; try omega) ?_)) ?_ (by first | exact flat_plain _ | exact ints_plain _) (by simp [ltT, ltA, ltC, ltV]; try omega) (res1 (resT rfl) rfl) ?_⟩
    · rfl
    · simp [renT, renV, renC, renA, one, filN_all]
theorem spec_l5Orders_step (X Y Z : Int) (b : Nat) (ro : Bool) (L : List C) (H : Heap) (n : Nat) (hb : H b = some (.cells ro (flat L))) (hv : Valid X Y Z L) (hl : L.length ≤ 18) (hrec : ∀ (K : List C) (r : Nat) (ro2 : Bool) (G : Heap) (m : Nat), Valid X Y Z K → K.length < L.length → G r = some (.cells ro2 (flat K)) → n ≤ m → Fn Try.prog 92 [.agg #[.int .i64 X, .int .i64 Y, .int .i64 Z, .slice (some ⟨r, 0, none⟩) K.length 3]] G m (.int .i64 (recL ordN without K)) G m) : Fn Try.prog 92 [.agg #[.int .i64 X, .int .i64 Y, .int .i64 Z, .slice (some ⟨b, 0, none⟩) L.length 3]] H n (.int .i64 (recL ordN without L)) (H) (n) := by
  refine Fn.intro' Try.func92 rfl (by kernel_rfl) Try.ntmps92 (by simp) (by omega) fun hfresh => ?_
  have lt_hb := lt_fresh hfresh hb
  have hX := hv.box
  have hNv : Valid X Y Z (ordN L) := hv.filter _
  have hNl := ord_ok.n L
  show W _ _ _ ⟨[(0, _)], _, _⟩ _
  refine W.sR [1] fun K hK => ?_
  refine st rfl rfl (e_boxA rfl) ?_
  refine st rfl rfl (e_assign rfl) ?_
  refine stEnd (hK _ [(1, _)] _ _ rfl ?_)
  clear hK K
  refine W.seq ?_
  refine W.sR [1, 9] fun K hK => ?_
  refine st rfl rfl (e_fieldAddr t28 t22 rfl rfl) ?_
  refine st rfl rfl (e_load1 t22 rfl rfl (by repeat (first | exact look_same | assumption | refine look_ne (by omega) ?_ | refine look_keep (by assumption) (by omega) (by simp; try omega) ?_)) rfl) ?_
  refine st rfl rfl (e_len t22 rfl) ?_
  refine st rfl rfl (e_eql rfl rfl) ?_
  refine stB (fun h0 => ?_) (fun h0 => ?_)
  ·
    try simp only [decide_eq_true_eq, decide_eq_false_iff_not, Bool.not_eq_true', Bool.not_eq_false', Bool.not_eq_true, Bool.not_eq_false] at h0
    have hnil : L.length = 0 := (by omega)
    refine stEnd (hK _ [(1, _), (9, _)] _ _ rfl ?_)
    clear hK K
    refine W.condT rfl ?_
    refine W.sR [2] fun K hK => ?_
    refine st rfl rfl (e_assign rfl) ?_
    refine stEnd (hK _ [(2, _)] _ _ rfl ?_)
    clear hK K
    refine W.ret ?_
    refine thenR ?_
    refine ⟨.inr rfl, Ends.v0 (by repeat (first | exact self_old | assumption | refine set_old ?_ (by omega) | refine keep_old (by assumption) ?_ (by omega) (by simp; try omega))) hfresh (by first | rfl | (simp [ltT, ltA, ltC, ltV]; try omega)) (res1 (resT rfl) rfl) ?_⟩
    rw [rec_nil hnil]
  ·
    try simp only [decide_eq_true_eq, decide_eq_false_iff_not, Bool.not_eq_true', Bool.not_eq_false', Bool.not_eq_true, Bool.not_eq_false] at h0
    have hne : ¬ L.length = 0 := (by omega)
    refine stEnd (hK _ [(1, _), (9, _)] _ _ rfl ?_)
    clear hK K
    refine W.condF rfl ?_
    refine W.skip ?_
    refine thenN ?_
    refine W.sR [1, 3] fun K hK => ?_
    refine st rfl rfl (e_assign rfl) ?_
    refine stEnd (hK _ [(1, _), (3, _)] _ _ rfl ?_)
    clear hK K
    refine W.sR [1, 3, 4] fun K hK => ?_
    refine st rfl rfl (e_loadA t28 rfl rfl (by repeat (first | exact look_same | assumption | refine look_ne (by omega) ?_ | refine look_keep (by assumption) (by omega) (by simp; try omega) ?_)) rfl rfl) ?_
    refine stC rfl rfl rfl (spec_l5Corners_s _ _ _ _ _ L _ _ (by repeat (first | exact look_same | assumption | refine look_ne (by omega) ?_ | refine look_keep (by assumption) (by omega) (by simp; try omega) ?_)) (by omega) (by assumption)) ?_
    rw [show (L.filter fun c => stairC (without L c)) = ordN L from rfl]
    refine st rfl rfl (e_assign rfl) ?_
    refine stEnd (hK _ [(1, _), (3, _), (4, _)] _ _ rfl ?_)
    clear hK K
    refine W.seq ?_
    refine W.sR [1, 3, 4, 5] fun K hK => ?_
    refine st rfl rfl (e_assign rfl) ?_
    refine stEnd (hK _ [(1, _), (3, _), (4, _), (5, _)] _ _ rfl ?_)
    clear hK K
    refine W.block ?_
    refine W.ord [3, 5, 1, 4] (ts' := [(3, _), (5, _)] ++ [(1, _), (4, _)]) rfl ?_
    refine W.loopC [(3, _), (5, _)] [] (fun κ V G μ => ∃ i : Nat, V = [(3, .int .i64 (sumF (fun j => recL ordN without (without L (at3 (ordN L) j))) i)), (5, .int .i64 (i : Nat))] ∧ κ = (ordN L).length - i ∧ (i ≤ (ordN L).length)) _ ⟨0, rfl, rfl, (by first | omega | assumption | rfl | simp_all)⟩ fun κ V G μ hinv hμ hkeep hfr => ?_
    obtain ⟨i, rfl, rfl, hi⟩ := hinv
    refine W.seq ?_
    refine W.sR [1, 3, 4, 5, 15] fun K hK => ?_
    refine st rfl rfl (e_move rfl) ?_
    refine st rfl rfl (e_move rfl) ?_
    refine st rfl rfl (e_len t22 rfl) ?_
    refine st rfl rfl (e_lss rfl rfl) ?_
    refine stB (fun hb2 => ?_) (fun hb2 => ?_)
    ·
      try simp only [decide_eq_true_eq, decide_eq_false_iff_not, Bool.not_eq_true', Bool.not_eq_false', Bool.not_eq_true, Bool.not_eq_false] at hb2
      refine stEnd (hK _ [(1, _), (3, _), (4, _), (5, _), (15, _)] _ _ rfl ?_)
      clear hK K
      refine W.condT rfl ?_
      refine W.skip ?_
      refine thenN ?_
      refine W.seq ?_
      refine W.block ?_
      have hb1 := rec_walk ord_ok hl (show i ≤ (ordN L).length by omega)
      have hb2 := rec_term ord_ok hl (show i < (ordN L).length by omega)
      refine W.rD [1, 3, 4, 5] [0, 0, 0, 0, 12, 28, 62, 126, 255, 511] (by kernel_rfl) (by kernel_rfl) fun K hK => ?_
      refine dP rfl rfl rfl (e_move rfl) ?_
      refine dL rfl rfl rfl (by omega) (accB_ok rfl) (e_loadA t28 rfl rfl (by repeat (first | exact look_same | assumption | refine look_ne (by omega) ?_ | refine look_keep (by assumption) (by omega) (by simp; try omega) ?_)) rfl rfl) ?_
      refine dP rfl rfl rfl (e_move rfl) ?_
      refine dP rfl rfl rfl (e_move rfl) ?_
      refine dP rfl rfl rfl (e_idxSK _ t22 t62 rfl rfl rfl (by first | omega | decide)) ?_
      refine dL rfl rfl rfl (by omega) (accB_ok rfl) (e_loadP t62 rfl rfl (by repeat (first | exact look_same | assumption | refine look_ne (by omega) ?_ | refine look_keep (by assumption) (by omega) (by simp; try omega) ?_)) (flat_at (by omega))) ?_
      refine dC1 rfl rfl rfl rfl (spec_l2Without_s _ _ _ _ _ L (at3 (ordN L) i) _ _ (by repeat (first | exact look_same | assumption | refine look_ne (by omega) ?_ | refine look_keep (by assumption) (by omega) (by simp; try omega) ?_ | refine look_hide (by omega) (by first | exact List.not_mem_nil | (simp [hidden, Nat.testBit]; done) | (simp [hidden, Nat.testBit]; omega)) ?_)) (by omega)) (accB_ok rfl) (by first | exact List.not_mem_nil | (simp [hidden, Nat.testBit]; done) | (simp [hidden, Nat.testBit]; omega)) ?_
      refine dC rfl rfl rfl rfl (hrec (without L (at3 (ordN L) i)) _ _ _ _ (without_valid hv _) (ord_ok.m L i (by omega)) (by repeat (first | exact look_same | assumption | refine look_ne (by omega) ?_ | refine look_keep (by assumption) (by omega) (by simp; try omega) ?_ | refine look_hide (by omega) (by first | exact List.not_mem_nil | (simp [hidden, Nat.testBit]; done) | (simp [hidden, Nat.testBit]; omega)) ?_)) (by omega)) (accB_ok rfl) ?_
      refine dP rfl rfl rfl (e_add rfl rfl (inB _ (by omega))) ?_
      refine dP rfl rfl rfl (e_assign rfl) ?_
      refine dEnd (hK _ [(1, _), (3, _), (4, _), (5, _)] _ _ rfl ?_)
      clear hK K
      refine blockN ?_
      refine thenN ?_
      refine W.rR [3, 5, 1, 4] fun K hK => ?_
      refine st rfl rfl (e_move rfl) ?_
      refine st rfl rfl (e_add rfl rfl (inB _ (by omega))) ?_
      refine st rfl rfl (e_assign rfl) ?_
      refine stEnd (hK _ [(3, _), (5, _), (1, _), (4, _)] _ _ rfl ?_)
      clear hK K
      exact roundN (V' := [(3, _), (5, _)]) [3, 5, 1, 4] rfl (by omega) (by repeat (first | exact Keeps.refl _ _ _ | assumption | refine Keeps.trans ?_ (by assumption) (by omega) (by simp; try omega) | refine Keeps.set ?_ (by first | exact Or.inl (by omega) | (simp; done) | (simp; omega)) | refine Keeps.del ?_ (by first | exact Or.inl (by omega) | (simp; done) | (simp; omega)) | refine Keeps.delO2 ?_ (by omega))) _ (by omega) ⟨i + 1, rfl, rfl, (by first | omega | assumption | simp_all)⟩
    ·
      try simp only [decide_eq_true_eq, decide_eq_false_iff_not, Bool.not_eq_true', Bool.not_eq_false', Bool.not_eq_true, Bool.not_eq_false] at hb2
      refine stEnd (hK _ [(1, _), (3, _), (4, _), (5, _), (15, _)] _ _ rfl ?_)
      clear hK K
      refine W.condF rfl ?_
      refine W.exit ?_
      refine thenE ?_
      refine thenE ?_
      refine blockX ?_
      refine thenN ?_
      refine W.sR [2] fun K hK => ?_
      refine st rfl rfl (e_move rfl) ?_
      refine st rfl rfl (e_assign rfl) ?_
      refine stEnd (hK _ [(2, _)] _ _ rfl ?_)
      clear hK K
      refine W.ret ?_
      refine ⟨.inr rfl, Ends.v0 (by repeat (first | exact self_old | assumption | refine set_old ?_ (by omega) | refine keep_old (by assumption) ?_ (by omega) (by simp; try omega))) hfresh (by first | rfl | (simp [ltT, ltA, ltC, ltV]; try omega)) (res1 (resT rfl) rfl) ?_⟩
      ((obtain rfl : i = (ordN L).length := by omega); rw [rec_cons ord_ok hne])
theorem spec_l5Orders_s (X Y Z : Int) (b : Nat) (ro : Bool) (L : List C) (H : Heap) (n : Nat) (hb : H b = some (.cells ro (flat L))) (hv : Valid X Y Z L) (hl : L.length ≤ 18) : Fn Try.prog 92 [.agg #[.int .i64 X, .int .i64 Y, .int .i64 Z, .slice (some ⟨b, 0, none⟩) L.length 3]] H n (.int .i64 (recL ordN without L)) H n := by
  have key : ∀ (f : Nat) (K : List C) (r : Nat) (ro : Bool) (G : Heap) (m : Nat), K.length ≤ f → Valid X Y Z K → K.length ≤ 18 → G r = some (.cells ro (flat K)) → Fn Try.prog 92 [.agg #[.int .i64 X, .int .i64 Y, .int .i64 Z, .slice (some ⟨r, 0, none⟩) K.length 3]] G m (.int .i64 (recL ordN without K)) G m := by
    intro f
    induction f with
    | zero => intro K r ro G m hK hv h18 h1; exact spec_l5Orders_step X Y Z r ro K G m h1 hv h18 fun K2 r2 ro2 G2 m2 _ hlt _ _ => absurd hlt (by omega)
    | succ f ih => intro K r ro G m hK hv h18 h1; exact spec_l5Orders_step X Y Z r ro K G m h1 hv h18 fun K2 r2 ro2 G2 m2 hv2 hlt g1 _ => ih K2 r2 ro2 G2 m2 (by omega) hv2 (by omega) g1
  exact key L.length L b ro H n (Nat.le_refl _) hv hl hb
theorem spec_StairOrders_ok_s (X Y Z : Int) (b : Nat) (ro : Bool) (cs : List C) (H : Heap) (n : Nat) (hb : H b = some (.cells ro (flat cs))) (hlen : cs.length ≤ 1048576) (hh : isHeap X Y Z cs = true) (hst : stairC cs = true) (h9 : cs.length ≤ 9) : Fn Try.prog 39 [.agg #[.int .i64 X, .int .i64 Y, .int .i64 Z, .slice (some ⟨b, 0, none⟩) cs.length 3]] H n (.tuple #[.int .i64 (recL ordN without cs), .bool true]) (H) (n) := by
  refine Fn.intro' Try.func39 rfl (by kernel_rfl) Try.ntmps39 (by simp) (by omega) fun hfresh => ?_
  have lt_hb := lt_fresh hfresh hb
  have hv := valid_of hh
  have hX := hv.box
  have hvl := vol_le hX
  show W _ _ _ ⟨[(0, _)], _, _⟩ _
  refine W.sR [1] fun K hK => ?_
  refine st rfl rfl (e_boxA rfl) ?_
  refine st rfl rfl (e_assign rfl) ?_
  refine st rfl rfl (e_assign rfl) ?_
  refine stEnd (hK _ [(1, _)] _ _ rfl ?_)
  clear hK K
  refine W.seq ?_
  refine W.sR [1, 12] fun K hK => ?_
  refine st rfl rfl (e_loadA t28 rfl rfl (by repeat (first | exact look_same | assumption | refine look_ne (by omega) ?_)) rfl rfl) ?_
  refine stC rfl rfl rfl (spec_l5Good_s _ _ _ _ _ _ _ _ (by repeat (first | exact look_same | assumption | refine look_ne (by omega) ?_)) (by omega)) ?_
  rw [hh, hst]
  refine st rfl rfl (e_not rfl) ?_
  refine st rfl rfl (e_move rfl) ?_
  refine st rfl rfl (e_fieldAddr t28 t22 rfl rfl) ?_
  refine st rfl rfl (e_load1 t22 rfl rfl (by repeat (first | exact look_same | assumption | refine look_ne (by omega) ?_)) rfl) ?_
  refine st rfl rfl (e_len t22 rfl) ?_
  refine st rfl rfl (e_gtr rfl rfl) ?_
  refine st rfl rfl (e_pickF rfl rfl) ?_
  refine stB (fun hz => ?_) (fun hz => ?_)
  ·
    (exfalso; simp only [decide_eq_true_eq] at hz; omega)
  ·
    try simp only [decide_eq_true_eq, decide_eq_false_iff_not, Bool.not_eq_true', Bool.not_eq_false', Bool.not_eq_true, Bool.not_eq_false] at hz
    refine stEnd (hK _ [(1, _), (12, _)] _ _ rfl ?_)
    clear hK K
    refine W.condF rfl ?_
    refine W.skip ?_
    refine thenN ?_
    refine W.sR [2, 3] fun K hK => ?_
    refine st rfl rfl (e_loadA t28 rfl rfl (by repeat (first | exact look_same | assumption | refine look_ne (by omega) ?_)) rfl rfl) ?_
    refine stC rfl rfl rfl (spec_l5Orders_s _ _ _ _ _ cs _ _ (by repeat (first | exact look_same | assumption | refine look_ne (by omega) ?_)) (by assumption) (by omega)) ?_
    refine st rfl rfl (e_assign rfl) ?_
    refine st rfl rfl (e_assign rfl) ?_
    refine stEnd (hK _ [(2, _), (3, _)] _ _ rfl ?_)
    clear hK K
    refine W.ret ?_
    refine ⟨.inr rfl, Ends.v0 (by repeat (first | exact self_old | assumption | refine set_old ?_ (by omega))) hfresh (by first | rfl | (simp [ltT, ltA, ltC, ltV]; try omega)) (res2 (resT rfl) (resT rfl) rfl rfl) ?_⟩
    rfl
theorem bld63_0_1_2 (v0 : Value) (v1 : Value) (v2 : Value) (h0 : oneV v0 = true) (h1 : oneV v1 = true) (h2 : oneV v2 = true) : cBuild Try.prog 63 [(0, v0), (1, v1), (2, v2)] = some (.agg #[v0, v1, v2]) := by
  simp [cBuild, t63, t3, fieldsOk, placesC, fillC, konst0, putC, (oneV_cells h0).1, (oneV_cells h1).1, (oneV_cells h2).1]
theorem impl_Heap_box_s (X Y Z : Int) (sv : Value) (H : Heap) (n : Nat) : Fn Try.prog 57 [.agg #[.int .i64 X, .int .i64 Y, .int .i64 Z, sv]] H n (.agg #[.int .i64 X, .int .i64 Y, .int .i64 Z]) (H) (n) := by
  refine Fn.intro' Try.func57 rfl (by kernel_rfl) Try.ntmps57 (by simp) (by omega) fun hfresh => ?_
  show W _ _ _ ⟨[(0, _)], _, _⟩ _
  refine W.sR [1, 2] fun K hK => ?_
  refine st rfl rfl (e_boxA rfl) ?_
  refine st rfl rfl (e_alloc t63 rfl) ?_
  refine stEnd (hK _ [(1, _), (2, _)] _ _ rfl ?_)
  clear hK K
  refine W.sR [2] fun K hK => ?_
  refine st rfl rfl (e_fieldAddr t28 t3 rfl rfl) ?_
  refine st rfl rfl (e_load1 t3 rfl rfl (by repeat (first | exact look_same | assumption | refine look_ne (by omega) ?_)) rfl) ?_
  refine st rfl rfl (e_fieldAddr t28 t3 rfl rfl) ?_
  refine st rfl rfl (e_load1 t3 rfl rfl (by repeat (first | exact look_same | assumption | refine look_ne (by omega) ?_)) rfl) ?_
  refine st rfl rfl (e_fieldAddr t28 t3 rfl rfl) ?_
  refine st rfl rfl (e_load1 t3 rfl rfl (by repeat (first | exact look_same | assumption | refine look_ne (by omega) ?_)) rfl) ?_
  refine st rfl rfl (e_build rfl rfl (bld63_0_1_2 _ _ _ rfl rfl rfl)) ?_
  refine stN rfl (e_storeA t63 rfl rfl (by repeat (first | exact look_same | assumption | refine look_ne (by omega) ?_)) rfl rfl rfl (by decide)) ?_
  refine stEnd (hK _ [(2, _)] _ _ rfl ?_)
  clear hK K
  refine W.ret ?_
  refine ⟨.inr rfl, Ends.v0 (by repeat (first | exact self_old | assumption | refine set_old ?_ (by omega))) hfresh (by first | rfl | (simp [ltT, ltA, ltC, ltV]; try omega)) (res1 (resC t63 rfl rfl (by repeat (first | exact look_same | assumption | refine look_ne (by omega) ?_)) rfl rfl) rfl) ?_⟩
  first | rfl | simp_all
theorem impl_within_s (a b c : Int) (H : Heap) (n : Nat) : Fn Try.prog 123 [.int .i64 a, .int .i64 b, .int .i64 c] H n (.bool (within a b c)) (H) (n) := by
  refine Fn.intro' Try.func123 rfl (by kernel_rfl) Try.ntmps123 (by simp) (by omega) fun hfresh => ?_
  show W _ _ _ ⟨[(0, _), (1, _), (2, _)], _, _⟩ _
  refine W.sR [0, 1, 2] fun K hK => ?_
  refine st rfl rfl (e_assign rfl) ?_
  refine stEnd (hK _ [(0, _), (1, _), (2, _)] _ _ rfl ?_)
  clear hK K
  refine W.sR [6] fun K hK => ?_
  refine st rfl rfl (e_move rfl) ?_
  refine st rfl rfl (e_move rfl) ?_
  refine st rfl rfl (e_geq rfl rfl) ?_
  refine st rfl rfl (e_move rfl) ?_
  refine stB (fun hb1 => ?_) (fun hb1 => ?_)
  ·
    try simp only [decide_eq_true_eq, decide_eq_false_iff_not, Bool.not_eq_true', Bool.not_eq_false', Bool.not_eq_true, Bool.not_eq_false] at hb1
    refine st rfl rfl (e_move rfl) ?_
    refine st rfl rfl (e_move rfl) ?_
    refine st rfl rfl (e_leq rfl rfl) ?_
    refine st rfl rfl (e_pickT rfl rfl) ?_
    refine st rfl rfl (e_assign rfl) ?_
    refine stEnd (hK _ [(6, _)] _ _ rfl ?_)
    clear hK K
    refine W.ret ?_
    refine ⟨.inr rfl, Ends.v0 (by repeat (first | exact self_old | assumption | refine set_old ?_ (by omega))) hfresh (by first | rfl | (simp [ltT, ltA, ltC, ltV]; try omega)) (res1 (resT rfl) rfl) ?_⟩
    simp [within, *] <;> omega
  ·
    try simp only [decide_eq_true_eq, decide_eq_false_iff_not, Bool.not_eq_true', Bool.not_eq_false', Bool.not_eq_true, Bool.not_eq_false] at hb1
    refine stS rfl rfl ?_
    refine stS rfl rfl ?_
    refine stS rfl rfl ?_
    refine st rfl rfl (e_pickF rfl rfl) ?_
    refine st rfl rfl (e_assign rfl) ?_
    refine stEnd (hK _ [(6, _)] _ _ rfl ?_)
    clear hK K
    refine W.ret ?_
    refine ⟨.inr rfl, Ends.v0 (by repeat (first | exact self_old | assumption | refine set_old ?_ (by omega))) hfresh (by first | rfl | (simp [ltT, ltA, ltC, ltV]; try omega)) (res1 (resT rfl) rfl) ?_⟩
    simp [within, *] <;> omega
theorem impl_box_valid_s (X Y Z : Int) (H : Heap) (n : Nat) : Fn Try.prog 108 [.agg #[.int .i64 X, .int .i64 Y, .int .i64 Z]] H n (.bool (sides X Y Z)) (H) (n) := by
  refine Fn.intro' Try.func108 rfl (by kernel_rfl) Try.ntmps108 (by simp) (by omega) fun hfresh => ?_
  show W _ _ _ ⟨[(0, _)], _, _⟩ _
  refine W.sR [1] fun K hK => ?_
  refine st rfl rfl (e_boxA rfl) ?_
  refine st rfl rfl (e_assign rfl) ?_
  refine stEnd (hK _ [(1, _)] _ _ rfl ?_)
  clear hK K
  refine W.sR [2] fun K hK => ?_
  refine st rfl rfl (e_idxAK (0) t63 t3 rfl rfl (by first | rfl | omega) (by first | omega | decide)) ?_
  refine st rfl rfl (e_load1 t3 rfl rfl (by repeat (first | exact look_same | assumption | refine look_ne (by omega) ?_)) (by first | rfl | exact tri_getL (by omega))) ?_
  refine stC rfl rfl rfl (impl_within_s _ _ _ _ _ ) ?_
  refine st rfl rfl (e_move rfl) ?_
  refine stB (fun hb1 => ?_) (fun hb1 => ?_)
  ·
    try simp only [decide_eq_true_eq, decide_eq_false_iff_not, Bool.not_eq_true', Bool.not_eq_false', Bool.not_eq_true, Bool.not_eq_false] at hb1
    refine st rfl rfl (e_idxAK (1) t63 t3 rfl rfl (by first | rfl | omega) (by first | omega | decide)) ?_
    refine st rfl rfl (e_load1 t3 rfl rfl (by repeat (first | exact look_same | assumption | refine look_ne (by omega) ?_)) (by first | rfl | exact tri_getL (by omega))) ?_
    refine stC rfl rfl rfl (impl_within_s _ _ _ _ _ ) ?_
    refine st rfl rfl (e_pickT rfl rfl) ?_
    refine st rfl rfl (e_move rfl) ?_
    refine stB (fun hb2 => ?_) (fun hb2 => ?_)
    ·
      try simp only [decide_eq_true_eq, decide_eq_false_iff_not, Bool.not_eq_true', Bool.not_eq_false', Bool.not_eq_true, Bool.not_eq_false] at hb2
      refine st rfl rfl (e_idxAK (2) t63 t3 rfl rfl (by first | rfl | omega) (by first | omega | decide)) ?_
      refine st rfl rfl (e_load1 t3 rfl rfl (by repeat (first | exact look_same | assumption | refine look_ne (by omega) ?_)) (by first | rfl | exact tri_getL (by omega))) ?_
      refine stC rfl rfl rfl (impl_within_s _ _ _ _ _ ) ?_
      refine st rfl rfl (e_pickT rfl rfl) ?_
      refine st rfl rfl (e_assign rfl) ?_
      refine stEnd (hK _ [(2, _)] _ _ rfl ?_)
      clear hK K
      refine W.ret ?_
      refine ⟨.inr rfl, Ends.v0 (by repeat (first | exact self_old | assumption | refine set_old ?_ (by omega))) hfresh (by first | rfl | (simp [ltT, ltA, ltC, ltV]; try omega)) (res1 (resT rfl) rfl) ?_⟩
      simp_all [sides]
    ·
      try simp only [decide_eq_true_eq, decide_eq_false_iff_not, Bool.not_eq_true', Bool.not_eq_false', Bool.not_eq_true, Bool.not_eq_false] at hb2
      refine stS rfl rfl ?_
      refine stS rfl rfl ?_
      refine stS rfl rfl ?_
      refine st rfl rfl (e_pickF rfl rfl) ?_
      refine st rfl rfl (e_assign rfl) ?_
      refine stEnd (hK _ [(2, _)] _ _ rfl ?_)
      clear hK K
      refine W.ret ?_
      refine ⟨.inr rfl, Ends.v0 (by repeat (first | exact self_old | assumption | refine set_old ?_ (by omega))) hfresh (by first | rfl | (simp [ltT, ltA, ltC, ltV]; try omega)) (res1 (resT rfl) rfl) ?_⟩
      simp_all [sides]
  ·
    try simp only [decide_eq_true_eq, decide_eq_false_iff_not, Bool.not_eq_true', Bool.not_eq_false', Bool.not_eq_true, Bool.not_eq_false] at hb1
    refine stS rfl rfl ?_
    refine stS rfl rfl ?_
    refine stS rfl rfl ?_
    refine st rfl rfl (e_pickF rfl rfl) ?_
    refine st rfl rfl (e_move rfl) ?_
    refine stS rfl rfl ?_
    refine stS rfl rfl ?_
    refine stS rfl rfl ?_
    refine st rfl rfl (e_pickF rfl rfl) ?_
    refine st rfl rfl (e_assign rfl) ?_
    refine stEnd (hK _ [(2, _)] _ _ rfl ?_)
    clear hK K
    refine W.ret ?_
    refine ⟨.inr rfl, Ends.v0 (by repeat (first | exact self_old | assumption | refine set_old ?_ (by omega))) hfresh (by first | rfl | (simp [ltT, ltA, ltC, ltV]; try omega)) (res1 (resT rfl) rfl) ?_⟩
    simp_all [sides]
theorem impl_box_has_s (X Y Z : Int) (c : C) (H : Heap) (n : Nat) (hX : (1 ≤ X ∧ X ≤ 4) ∧ (1 ≤ Y ∧ Y ≤ 4) ∧ (1 ≤ Z ∧ Z ≤ 4)) : Fn Try.prog 67 [.agg #[.int .i64 X, .int .i64 Y, .int .i64 Z], .agg #[.int .i64 c.1, .int .i64 c.2.1, .int .i64 c.2.2]] H n (.bool (inBox X Y Z c)) (H) (n) := by
  refine Fn.intro' Try.func67 rfl (by kernel_rfl) Try.ntmps67 (by simp) (by omega) fun hfresh => ?_
  show W _ _ _ ⟨[(0, _), (1, _)], _, _⟩ _
  refine W.sR [2, 3] fun K hK => ?_
  refine st rfl rfl (e_boxA rfl) ?_
  refine st rfl rfl (e_boxA rfl) ?_
  refine st rfl rfl (e_assign rfl) ?_
  refine stEnd (hK _ [(2, _), (3, _)] _ _ rfl ?_)
  clear hK K
  refine W.sR [4] fun K hK => ?_
  refine st rfl rfl (e_idxAK (0) t62 t3 rfl rfl (by first | rfl | omega) (by first | omega | decide)) ?_
  refine st rfl rfl (e_load1 t3 rfl rfl (by repeat (first | exact look_same | assumption | refine look_ne (by omega) ?_)) (by first | rfl | exact tri_getL (by omega))) ?_
  refine st rfl rfl (e_idxAK (0) t63 t3 rfl rfl (by first | rfl | omega) (by first | omega | decide)) ?_
  refine st rfl rfl (e_load1 t3 rfl rfl (by repeat (first | exact look_same | assumption | refine look_ne (by omega) ?_)) (by first | rfl | exact tri_getL (by omega))) ?_
  refine st rfl rfl (e_sub rfl rfl (inB _ (by omega))) ?_
  refine stC rfl rfl rfl (impl_within_s _ _ _ _ _ ) ?_
  refine st rfl rfl (e_move rfl) ?_
  refine stB (fun hb1 => ?_) (fun hb1 => ?_)
  ·
    try simp only [decide_eq_true_eq, decide_eq_false_iff_not, Bool.not_eq_true', Bool.not_eq_false', Bool.not_eq_true, Bool.not_eq_false] at hb1
    refine st rfl rfl (e_idxAK (1) t62 t3 rfl rfl (by first | rfl | omega) (by first | omega | decide)) ?_
    refine st rfl rfl (e_load1 t3 rfl rfl (by repeat (first | exact look_same | assumption | refine look_ne (by omega) ?_)) (by first | rfl | exact tri_getL (by omega))) ?_
    refine st rfl rfl (e_idxAK (1) t63 t3 rfl rfl (by first | rfl | omega) (by first | omega | decide)) ?_
    refine st rfl rfl (e_load1 t3 rfl rfl (by repeat (first | exact look_same | assumption | refine look_ne (by omega) ?_)) (by first | rfl | exact tri_getL (by omega))) ?_
    refine st rfl rfl (e_sub rfl rfl (inB _ (by omega))) ?_
    refine stC rfl rfl rfl (impl_within_s _ _ _ _ _ ) ?_
    refine st rfl rfl (e_pickT rfl rfl) ?_
    refine st rfl rfl (e_move rfl) ?_
    refine stB (fun hb2 => ?_) (fun hb2 => ?_)
    ·
      try simp only [decide_eq_true_eq, decide_eq_false_iff_not, Bool.not_eq_true', Bool.not_eq_false', Bool.not_eq_true, Bool.not_eq_false] at hb2
      refine st rfl rfl (e_idxAK (2) t62 t3 rfl rfl (by first | rfl | omega) (by first | omega | decide)) ?_
      refine st rfl rfl (e_load1 t3 rfl rfl (by repeat (first | exact look_same | assumption | refine look_ne (by omega) ?_)) (by first | rfl | exact tri_getL (by omega))) ?_
      refine st rfl rfl (e_idxAK (2) t63 t3 rfl rfl (by first | rfl | omega) (by first | omega | decide)) ?_
      refine st rfl rfl (e_load1 t3 rfl rfl (by repeat (first | exact look_same | assumption | refine look_ne (by omega) ?_)) (by first | rfl | exact tri_getL (by omega))) ?_
      refine st rfl rfl (e_sub rfl rfl (inB _ (by omega))) ?_
      refine stC rfl rfl rfl (impl_within_s _ _ _ _ _ ) ?_
      refine st rfl rfl (e_pickT rfl rfl) ?_
      refine st rfl rfl (e_assign rfl) ?_
      refine stEnd (hK _ [(4, _)] _ _ rfl ?_)
      clear hK K
      refine W.ret ?_
      refine ⟨.inr rfl, Ends.v0 (by repeat (first | exact self_old | assumption | refine set_old ?_ (by omega))) hfresh (by first | rfl | (simp [ltT, ltA, ltC, ltV]; try omega)) (res1 (resT rfl) rfl) ?_⟩
      simp_all [inBox]
    ·
      try simp only [decide_eq_true_eq, decide_eq_false_iff_not, Bool.not_eq_true', Bool.not_eq_false', Bool.not_eq_true, Bool.not_eq_false] at hb2
      refine stS rfl rfl ?_
      refine stS rfl rfl ?_
      refine stS rfl rfl ?_
      refine stS rfl rfl ?_
      refine stS rfl rfl ?_
      refine stS rfl rfl ?_
      refine st rfl rfl (e_pickF rfl rfl) ?_
      refine st rfl rfl (e_assign rfl) ?_
      refine stEnd (hK _ [(4, _)] _ _ rfl ?_)
      clear hK K
      refine W.ret ?_
      refine ⟨.inr rfl, Ends.v0 (by repeat (first | exact self_old | assumption | refine set_old ?_ (by omega))) hfresh (by first | rfl | (simp [ltT, ltA, ltC, ltV]; try omega)) (res1 (resT rfl) rfl) ?_⟩
      simp_all [inBox]
  ·
    try simp only [decide_eq_true_eq, decide_eq_false_iff_not, Bool.not_eq_true', Bool.not_eq_false', Bool.not_eq_true, Bool.not_eq_false] at hb1
    refine stS rfl rfl ?_
    refine stS rfl rfl ?_
    refine stS rfl rfl ?_
    refine stS rfl rfl ?_
    refine stS rfl rfl ?_
    refine stS rfl rfl ?_
    refine st rfl rfl (e_pickF rfl rfl) ?_
    refine st rfl rfl (e_move rfl) ?_
    refine stS rfl rfl ?_
    refine stS rfl rfl ?_
    refine stS rfl rfl ?_
    refine stS rfl rfl ?_
    refine stS rfl rfl ?_
    refine stS rfl rfl ?_
    refine st rfl rfl (e_pickF rfl rfl) ?_
    refine st rfl rfl (e_assign rfl) ?_
    refine stEnd (hK _ [(4, _)] _ _ rfl ?_)
    clear hK K
    refine W.ret ?_
    refine ⟨.inr rfl, Ends.v0 (by repeat (first | exact self_old | assumption | refine set_old ?_ (by omega))) hfresh (by first | rfl | (simp [ltT, ltA, ltC, ltV]; try omega)) (res1 (resT rfl) rfl) ?_⟩
    simp_all [inBox]
theorem cmp_isNaNint_s (a : Int) (H : Heap) (n : Nat) : Fn Try.prog 164 [.int .i64 a] H n (.bool false) (H) (n) := by
  refine Fn.intro' Try.func164 rfl (by kernel_rfl) Try.ntmps164 (by simp) (by omega) fun hfresh => ?_
  show W _ _ _ ⟨[(0, _)], _, _⟩ _
  refine W.sR [0] fun K hK => ?_
  refine st rfl rfl (e_assign rfl) ?_
  refine stEnd (hK _ [(0, _)] _ _ rfl ?_)
  clear hK K
  refine W.sR [2] fun K hK => ?_
  refine st rfl rfl (e_move rfl) ?_
  refine st rfl rfl (e_move rfl) ?_
  refine st rfl rfl (e_neq rfl rfl) ?_
  refine st rfl rfl (e_assign rfl) ?_
  refine stEnd (hK _ [(2, _)] _ _ rfl ?_)
  clear hK K
  refine W.ret ?_
  refine ⟨.inr rfl, Ends.v0 (by repeat (first | exact self_old | assumption | refine set_old ?_ (by omega))) hfresh (by first | rfl | (simp [ltT, ltA, ltC, ltV]; try omega)) (res1 (resT rfl) rfl) ?_⟩
  simp
theorem cmp_Compareint_s (a b : Int) (H : Heap) (n : Nat) : Fn Try.prog 160 [.int .i64 a, .int .i64 b] H n (.int .i64 (cmpI a b)) (H) (n) := by
  refine Fn.intro' Try.func160 rfl (by kernel_rfl) Try.ntmps160 (by simp) (by omega) fun hfresh => ?_
  show W _ _ _ ⟨[(0, _), (1, _)], _, _⟩ _
  refine W.sR [0, 1] fun K hK => ?_
  refine st rfl rfl (e_assign rfl) ?_
  refine stEnd (hK _ [(0, _), (1, _)] _ _ rfl ?_)
  clear hK K
  refine W.sR [0, 1, 5] fun K hK => ?_
  refine st rfl rfl (e_move rfl) ?_
  refine stC rfl rfl rfl (cmp_isNaNint_s _ _ _ ) ?_
  refine st rfl rfl (e_assign rfl) ?_
  refine stEnd (hK _ [(0, _), (1, _), (5, _)] _ _ rfl ?_)
  clear hK K
  refine W.sR [0, 1, 5, 6] fun K hK => ?_
  refine st rfl rfl (e_move rfl) ?_
  refine stC rfl rfl rfl (cmp_isNaNint_s _ _ _ ) ?_
  refine st rfl rfl (e_assign rfl) ?_
  refine stEnd (hK _ [(0, _), (1, _), (5, _), (6, _)] _ _ rfl ?_)
  clear hK K
  refine W.seq ?_
  refine W.sR [0, 1, 6, 11] fun K hK => ?_
  refine st rfl rfl (e_move rfl) ?_
  refine stEnd (hK _ [(0, _), (1, _), (6, _), (11, _)] _ _ rfl ?_)
  clear hK K
  refine W.condF rfl ?_
  refine W.skip ?_
  refine thenN ?_
  refine W.seq ?_
  refine W.sR [0, 1, 13] fun K hK => ?_
  refine st rfl rfl (e_move rfl) ?_
  refine stEnd (hK _ [(0, _), (1, _), (13, _)] _ _ rfl ?_)
  clear hK K
  refine W.condF rfl ?_
  refine W.skip ?_
  refine thenN ?_
  refine W.seq ?_
  refine W.sR [0, 1, 16] fun K hK => ?_
  refine st rfl rfl (e_move rfl) ?_
  refine st rfl rfl (e_move rfl) ?_
  refine st rfl rfl (e_lss rfl rfl) ?_
  refine stB (fun hb1 => ?_) (fun hb1 => ?_)
  ·
    try simp only [decide_eq_true_eq, decide_eq_false_iff_not, Bool.not_eq_true', Bool.not_eq_false', Bool.not_eq_true, Bool.not_eq_false] at hb1
    refine stEnd (hK _ [(0, _), (1, _), (16, _)] _ _ rfl ?_)
    clear hK K
    refine W.condT rfl ?_
    refine W.sR [4] fun K hK => ?_
    refine st rfl rfl (e_assign rfl) ?_
    refine stEnd (hK _ [(4, _)] _ _ rfl ?_)
    clear hK K
    refine W.ret ?_
    refine thenR ?_
    refine ⟨.inr rfl, Ends.v0 (by repeat (first | exact self_old | assumption | refine set_old ?_ (by omega))) hfresh (by first | rfl | (simp [ltT, ltA, ltC, ltV]; try omega)) (res1 (resT rfl) rfl) ?_⟩
    simp only [cmpI]; congr 1; (repeat' split) <;> omega
  ·
    try simp only [decide_eq_true_eq, decide_eq_false_iff_not, Bool.not_eq_true', Bool.not_eq_false', Bool.not_eq_true, Bool.not_eq_false] at hb1
    refine stEnd (hK _ [(0, _), (1, _), (16, _)] _ _ rfl ?_)
    clear hK K
    refine W.condF rfl ?_
    refine W.skip ?_
    refine thenN ?_
    refine W.seq ?_
    refine W.sR [19] fun K hK => ?_
    refine st rfl rfl (e_move rfl) ?_
    refine st rfl rfl (e_move rfl) ?_
    refine st rfl rfl (e_gtr rfl rfl) ?_
    refine stB (fun hb2 => ?_) (fun hb2 => ?_)
    ·
      try simp only [decide_eq_true_eq, decide_eq_false_iff_not, Bool.not_eq_true', Bool.not_eq_false', Bool.not_eq_true, Bool.not_eq_false] at hb2
      refine stEnd (hK _ [(19, _)] _ _ rfl ?_)
      clear hK K
      refine W.condT rfl ?_
      refine W.sR [4] fun K hK => ?_
      refine st rfl rfl (e_assign rfl) ?_
      refine stEnd (hK _ [(4, _)] _ _ rfl ?_)
      clear hK K
      refine W.ret ?_
      refine thenR ?_
      refine ⟨.inr rfl, Ends.v0 (by repeat (first | exact self_old | assumption | refine set_old ?_ (by omega))) hfresh (by first | rfl | (simp [ltT, ltA, ltC, ltV]; try omega)) (res1 (resT rfl) rfl) ?_⟩
      simp only [cmpI]; congr 1; (repeat' split) <;> omega
    ·
      try simp only [decide_eq_true_eq, decide_eq_false_iff_not, Bool.not_eq_true', Bool.not_eq_false', Bool.not_eq_true, Bool.not_eq_false] at hb2
      refine stEnd (hK _ [(19, _)] _ _ rfl ?_)
      clear hK K
      refine W.condF rfl ?_
      refine W.skip ?_
      refine thenN ?_
      refine W.sR [4] fun K hK => ?_
      refine st rfl rfl (e_assign rfl) ?_
      refine stEnd (hK _ [(4, _)] _ _ rfl ?_)
      clear hK K
      refine W.ret ?_
      refine ⟨.inr rfl, Ends.v0 (by repeat (first | exact self_old | assumption | refine set_old ?_ (by omega))) hfresh (by first | rfl | (simp [ltT, ltA, ltC, ltV]; try omega)) (res1 (resT rfl) rfl) ?_⟩
      simp only [cmpI]; congr 1; (repeat' split) <;> omega
theorem slices_Compareintint_s (b : Nat) (ro : Bool) (xs : List Int) (c : Nat) (ro2 : Bool) (ys : List Int) (H : Heap) (n : Nat) (hb : H b = some (.cells ro (ints xs))) (hc : H c = some (.cells ro2 (ints ys))) (hxs : xs.length ≤ 1048576) (hys : ys.length ≤ 1048576) : Fn Try.prog 152 [.slice (some ⟨b, 0, none⟩) xs.length 1, .slice (some ⟨c, 0, none⟩) ys.length 1] H n (.int .i64 (cmpL xs ys)) (H) (n) := by
  refine Fn.intro' Try.func152 rfl (by kernel_rfl) Try.ntmps152 (by simp) (by omega) fun hfresh => ?_
  have lt_hb := lt_fresh hfresh hb
  have lt_hc := lt_fresh hfresh hc
  show W _ _ _ ⟨[(0, _), (1, _)], _, _⟩ _
  refine W.sR [0, 1] fun K hK => ?_
  refine st rfl rfl (e_assign rfl) ?_
  refine stEnd (hK _ [(0, _), (1, _)] _ _ rfl ?_)
  clear hK K
  refine W.seq ?_
  refine W.sR [0, 1, 9, 10, 11] fun K hK => ?_
  refine st rfl rfl (e_move rfl) ?_
  refine st rfl rfl (e_len t82 rfl) ?_
  refine st rfl rfl (e_move rfl) ?_
  refine stEnd (hK _ [(0, _), (1, _), (9, _), (10, _), (11, _)] _ _ rfl ?_)
  clear hK K
  refine W.block ?_
  refine W.ord [11, 0, 1, 9, 10] (ts' := [(11, _)] ++ [(0, _), (1, _), (9, _), (10, _)]) rfl ?_
  refine W.loopC [(11, _)] [] (fun κ V G μ => ∃ i : Nat, V = [(11, .int .i64 (i : Nat))] ∧ κ = xs.length - i ∧ (i ≤ xs.length ∧ i ≤ ys.length) ∧ (cmpL xs ys = cmpL (xs.drop i) (ys.drop i))) _ ⟨0, rfl, rfl, (by first | omega | assumption | rfl | simp_all), (by first | omega | assumption | rfl | simp_all)⟩ fun κ V G μ hinv hμ hkeep hfr => ?_
  obtain ⟨i, rfl, rfl, hi, hq⟩ := hinv
  refine W.sR [0, 1, 9, 10, 11, 12] fun K hK => ?_
  refine st rfl rfl (e_lss rfl rfl) ?_
  refine stB (fun hb1 => ?_) (fun hb1 => ?_)
  ·
    try simp only [decide_eq_true_eq, decide_eq_false_iff_not, Bool.not_eq_true', Bool.not_eq_false', Bool.not_eq_true, Bool.not_eq_false] at hb1
    refine stEnd (hK _ [(0, _), (1, _), (9, _), (10, _), (11, _), (12, _)] _ _ rfl ?_)
    clear hK K
    refine W.seq ?_
    refine W.condT rfl ?_
    refine W.skip ?_
    refine thenN ?_
    refine W.seq ?_
    refine W.block ?_
    refine W.sR [0, 1, 5, 6, 9, 10, 11] fun K hK => ?_
    refine st rfl rfl (e_move rfl) ?_
    refine st rfl rfl (e_idxSK _ t82 t3 rfl rfl rfl (by first | omega | decide)) ?_
    refine st rfl rfl (e_load1 t3 rfl rfl (by repeat (first | exact look_same | assumption | refine look_ne (by omega) ?_ | refine look_keep (by assumption) (by omega) (by simp; try omega) ?_)) (ints_at (by omega))) ?_
    refine st rfl rfl (e_assign rfl) ?_
    refine st rfl rfl (e_assign rfl) ?_
    refine stEnd (hK _ [(0, _), (1, _), (5, _), (6, _), (9, _), (10, _), (11, _)] _ _ rfl ?_)
    clear hK K
    refine W.seq ?_
    refine W.sR [0, 1, 5, 6, 9, 10, 11, 19] fun K hK => ?_
    refine st rfl rfl (e_move rfl) ?_
    refine st rfl rfl (e_move rfl) ?_
    refine st rfl rfl (e_len t82 rfl) ?_
    refine st rfl rfl (e_geq rfl rfl) ?_
    refine stB (fun hb2 => ?_) (fun hb2 => ?_)
    ·
      try simp only [decide_eq_true_eq, decide_eq_false_iff_not, Bool.not_eq_true', Bool.not_eq_false', Bool.not_eq_true, Bool.not_eq_false] at hb2
      refine stEnd (hK _ [(0, _), (1, _), (5, _), (6, _), (9, _), (10, _), (11, _), (19, _)] _ _ rfl ?_)
      clear hK K
      refine W.condT rfl ?_
      refine W.sR [4] fun K hK => ?_
      refine st rfl rfl (e_assign rfl) ?_
      refine stEnd (hK _ [(4, _)] _ _ rfl ?_)
      clear hK K
      refine W.ret ?_
      refine thenR ?_
      refine blockR ?_
      refine thenR ?_
      refine thenR ?_
      refine blockR ?_
      refine thenR ?_
      refine ⟨.inr rfl, Ends.v0 (by repeat (first | exact self_old | assumption | refine set_old ?_ (by omega) | refine keep_old (by assumption) ?_ (by omega) (by simp; try omega))) hfresh (by first | rfl | (simp [ltT, ltA, ltC, ltV]; try omega)) (res1 (resT rfl) rfl) ?_⟩
      first | rw [cmpL_e1 hq (by omega) (by omega)] | rw [cmpL_e2 hq (by omega) (by omega)] | rw [cmpL_e3 hq (by omega) (by omega)] | rw [hq, cmpL_drop (by omega) (by omega), if_neg (by assumption)]
    ·
      try simp only [decide_eq_true_eq, decide_eq_false_iff_not, Bool.not_eq_true', Bool.not_eq_false', Bool.not_eq_true, Bool.not_eq_false] at hb2
      refine stEnd (hK _ [(0, _), (1, _), (5, _), (6, _), (9, _), (10, _), (11, _), (19, _)] _ _ rfl ?_)
      clear hK K
      refine W.condF rfl ?_
      refine W.skip ?_
      refine thenN ?_
      refine W.sR [0, 1, 6, 7, 9, 10, 11] fun K hK => ?_
      refine st rfl rfl (e_move rfl) ?_
      refine st rfl rfl (e_move rfl) ?_
      refine st rfl rfl (e_idxSK _ t82 t3 rfl rfl rfl (by first | omega | decide)) ?_
      refine st rfl rfl (e_load1 t3 rfl rfl (by repeat (first | exact look_same | assumption | refine look_ne (by omega) ?_ | refine look_keep (by assumption) (by omega) (by simp; try omega) ?_)) (ints_at (by omega))) ?_
      refine st rfl rfl (e_assign rfl) ?_
      refine stEnd (hK _ [(0, _), (1, _), (6, _), (7, _), (9, _), (10, _), (11, _)] _ _ rfl ?_)
      clear hK K
      refine W.sR [0, 1, 8, 9, 10, 11] fun K hK => ?_
      refine st rfl rfl (e_move rfl) ?_
      refine st rfl rfl (e_move rfl) ?_
      refine stC rfl rfl rfl (cmp_Compareint_s _ _ _ _ ) ?_
      refine st rfl rfl (e_assign rfl) ?_
      refine stEnd (hK _ [(0, _), (1, _), (8, _), (9, _), (10, _), (11, _)] _ _ rfl ?_)
      clear hK K
      refine W.sR [0, 1, 8, 9, 10, 11, 28] fun K hK => ?_
      refine st rfl rfl (e_move rfl) ?_
      refine st rfl rfl (e_neq rfl rfl) ?_
      refine stB (fun hb3 => ?_) (fun hb3 => ?_)
      ·
        try simp only [decide_eq_true_eq, decide_eq_false_iff_not, Bool.not_eq_true', Bool.not_eq_false', Bool.not_eq_true, Bool.not_eq_false] at hb3
        refine stEnd (hK _ [(0, _), (1, _), (8, _), (9, _), (10, _), (11, _), (28, _)] _ _ rfl ?_)
        clear hK K
        refine W.condT rfl ?_
        refine W.sR [4] fun K hK => ?_
        refine st rfl rfl (e_move rfl) ?_
        refine st rfl rfl (e_assign rfl) ?_
        refine stEnd (hK _ [(4, _)] _ _ rfl ?_)
        clear hK K
        refine W.ret ?_
        refine blockR ?_
        refine thenR ?_
        refine thenR ?_
        refine blockR ?_
        refine thenR ?_
        refine ⟨.inr rfl, Ends.v0 (by repeat (first | exact self_old | assumption | refine set_old ?_ (by omega) | refine keep_old (by assumption) ?_ (by omega) (by simp; try omega))) hfresh (by first | rfl | (simp [ltT, ltA, ltC, ltV]; try omega)) (res1 (resT rfl) rfl) ?_⟩
        first | rw [cmpL_e1 hq (by omega) (by omega)] | rw [cmpL_e2 hq (by omega) (by omega)] | rw [cmpL_e3 hq (by omega) (by omega)] | rw [hq, cmpL_drop (by omega) (by omega), if_neg (by assumption)]
      ·
        try simp only [decide_eq_true_eq, decide_eq_false_iff_not, Bool.not_eq_true', Bool.not_eq_false', Bool.not_eq_true, Bool.not_eq_false] at hb3
        refine stEnd (hK _ [(0, _), (1, _), (8, _), (9, _), (10, _), (11, _), (28, _)] _ _ rfl ?_)
        clear hK K
        refine W.condF rfl ?_
        refine W.skip ?_
        refine blockN ?_
        refine thenN ?_
        refine W.rR [11, 0, 1, 9, 10] fun K hK => ?_
        refine st rfl rfl (e_add rfl rfl (inB _ (by omega))) ?_
        refine st rfl rfl (e_move rfl) ?_
        refine stEnd (hK _ [(11, _), (0, _), (1, _), (9, _), (10, _)] _ _ rfl ?_)
        clear hK K
        exact roundN (V' := [(11, _)]) [11, 0, 1, 9, 10] rfl (by omega) (by repeat (first | exact Keeps.refl _ _ _ | assumption | refine Keeps.trans ?_ (by assumption) (by omega) (by simp; try omega) | refine Keeps.set ?_ (by first | exact Or.inl (by omega) | (simp; done) | (simp; omega)) | refine Keeps.del ?_ (by first | exact Or.inl (by omega) | (simp; done) | (simp; omega)) | refine Keeps.delO2 ?_ (by omega))) _ (by omega) ⟨i + 1, rfl, rfl, (by first | omega | assumption | simp_all), (by rw [hq, cmpL_drop (by omega) (by omega), if_pos (by assumption)])⟩
  ·
    try simp only [decide_eq_true_eq, decide_eq_false_iff_not, Bool.not_eq_true', Bool.not_eq_false', Bool.not_eq_true, Bool.not_eq_false] at hb1
    refine stEnd (hK _ [(0, _), (1, _), (9, _), (10, _), (11, _), (12, _)] _ _ rfl ?_)
    clear hK K
    refine W.seq ?_
    refine W.condF rfl ?_
    refine W.exit ?_
    refine thenE ?_
    refine thenE ?_
    refine blockX ?_
    refine thenN ?_
    refine W.seq ?_
    refine W.sR [35] fun K hK => ?_
    refine st rfl rfl (e_move rfl) ?_
    refine st rfl rfl (e_len t82 rfl) ?_
    refine st rfl rfl (e_move rfl) ?_
    refine st rfl rfl (e_len t82 rfl) ?_
    refine st rfl rfl (e_lss rfl rfl) ?_
    refine stB (fun hb4 => ?_) (fun hb4 => ?_)
    ·
      try simp only [decide_eq_true_eq, decide_eq_false_iff_not, Bool.not_eq_true', Bool.not_eq_false', Bool.not_eq_true, Bool.not_eq_false] at hb4
      refine stEnd (hK _ [(35, _)] _ _ rfl ?_)
      clear hK K
      refine W.condT rfl ?_
      refine W.sR [4] fun K hK => ?_
      refine st rfl rfl (e_assign rfl) ?_
      refine stEnd (hK _ [(4, _)] _ _ rfl ?_)
      clear hK K
      refine W.ret ?_
      refine thenR ?_
      refine ⟨.inr rfl, Ends.v0 (by repeat (first | exact self_old | assumption | refine set_old ?_ (by omega) | refine keep_old (by assumption) ?_ (by omega) (by simp; try omega))) hfresh (by first | rfl | (simp [ltT, ltA, ltC, ltV]; try omega)) (res1 (resT rfl) rfl) ?_⟩
      first | rw [cmpL_e1 hq (by omega) (by omega)] | rw [cmpL_e2 hq (by omega) (by omega)] | rw [cmpL_e3 hq (by omega) (by omega)] | rw [hq, cmpL_drop (by omega) (by omega), if_neg (by assumption)]
    ·
      try simp only [decide_eq_true_eq, decide_eq_false_iff_not, Bool.not_eq_true', Bool.not_eq_false', Bool.not_eq_true, Bool.not_eq_false] at hb4
      refine stEnd (hK _ [(35, _)] _ _ rfl ?_)
      clear hK K
      refine W.condF rfl ?_
      refine W.skip ?_
      refine thenN ?_
      refine W.sR [4] fun K hK => ?_
      refine st rfl rfl (e_assign rfl) ?_
      refine stEnd (hK _ [(4, _)] _ _ rfl ?_)
      clear hK K
      refine W.ret ?_
      refine ⟨.inr rfl, Ends.v0 (by repeat (first | exact self_old | assumption | refine set_old ?_ (by omega) | refine keep_old (by assumption) ?_ (by omega) (by simp; try omega))) hfresh (by first | rfl | (simp [ltT, ltA, ltC, ltV]; try omega)) (res1 (resT rfl) rfl) ?_⟩
      first | rw [cmpL_e1 hq (by omega) (by omega)] | rw [cmpL_e2 hq (by omega) (by omega)] | rw [cmpL_e3 hq (by omega) (by omega)] | rw [hq, cmpL_drop (by omega) (by omega), if_neg (by assumption)]
theorem impl_compareCells_s (a b : C) (H : Heap) (n : Nat) : Fn Try.prog 109 [.agg #[.int .i64 a.1, .int .i64 a.2.1, .int .i64 a.2.2], .agg #[.int .i64 b.1, .int .i64 b.2.1, .int .i64 b.2.2]] H n (.int .i64 (cmpC a b)) (H) (n) := by
  refine Fn.intro' Try.func109 rfl (by kernel_rfl) Try.ntmps109 (by simp) (by omega) fun hfresh => ?_
  show W _ _ _ ⟨[(0, _), (1, _)], _, _⟩ _
  refine W.sR [2, 3] fun K hK => ?_
  refine st rfl rfl (e_boxA rfl) ?_
  refine st rfl rfl (e_boxA rfl) ?_
  refine st rfl rfl (e_assign rfl) ?_
  refine stEnd (hK _ [(2, _), (3, _)] _ _ rfl ?_)
  clear hK K
  refine W.sD [4] [0, 0, 3, 7] (by kernel_rfl) (by kernel_rfl) fun K hK => ?_
  refine dLs rfl rfl rfl (by omega) (accB_ok rfl) (e_sliceA t62 t3 rfl (by repeat (first | exact look_same | assumption | refine look_ne (by omega) ?_)) (by first | (simp; done) | (simp only [tri, List.length_cons, List.length_nil]; omega))) ?_
  refine dLs rfl rfl rfl (by omega) (accB_ok rfl) (e_sliceA t62 t3 rfl (by repeat (first | exact look_same | assumption | refine look_ne (by omega) ?_)) (by first | (simp; done) | (simp only [tri, List.length_cons, List.length_nil]; omega))) ?_
  refine dC rfl rfl rfl rfl (slices_Compareintint_s _ _ [a.1, a.2.1, a.2.2] _ _ [b.1, b.2.1, b.2.2] _ _ (by repeat (first | exact look_same | assumption | refine look_ne (by omega) ?_ | refine look_hide (by omega) (by first | exact List.not_mem_nil | (simp [hidden, Nat.testBit]; done) | (simp [hidden, Nat.testBit]; omega)) ?_)) (by repeat (first | exact look_same | assumption | refine look_ne (by omega) ?_ | refine look_hide (by omega) (by first | exact List.not_mem_nil | (simp [hidden, Nat.testBit]; done) | (simp [hidden, Nat.testBit]; omega)) ?_)) (by simp) (by simp)) (accB_ok rfl) ?_
  refine dP rfl rfl rfl (e_assign rfl) ?_
  refine dEnd (hK _ [(4, _)] _ _ rfl ?_)
  clear hK K
  refine W.ret ?_
  refine ⟨.inr rfl, Ends.v0 (by repeat (first | exact self_old | assumption | refine set_old ?_ (by omega))) hfresh (by first | rfl | (simp [ltT, ltA, ltC, ltV]; try omega)) (res1 (resT rfl) rfl) ?_⟩
  rfl
theorem impl_IsHeap_s (X Y Z : Int) (b : Nat) (ro : Bool) (cs : List C) (H : Heap) (n : Nat) (hb : H b = some (.cells ro (flat cs))) (hlen : cs.length ≤ 1048576) : Fn Try.prog 49 [.agg #[.int .i64 X, .int .i64 Y, .int .i64 Z, .slice (some ⟨b, 0, none⟩) cs.length 3]] H n (.bool (isHeap X Y Z cs)) (H) (n) := by
  refine Fn.intro' Try.func49 rfl (by kernel_rfl) Try.ntmps49 (by simp) (by omega) fun hfresh => ?_
  have lt_hb := lt_fresh hfresh hb
  show W _ _ _ ⟨[(0, _)], _, _⟩ _
  refine W.sR [1] fun K hK => ?_
  refine st rfl rfl (e_boxA rfl) ?_
  refine st rfl rfl (e_assign rfl) ?_
  refine stEnd (hK _ [(1, _)] _ _ rfl ?_)
  clear hK K
  refine W.seq ?_
  refine W.sR [1, 8] fun K hK => ?_
  refine st rfl rfl (e_loadA t28 rfl rfl (by repeat (first | exact look_same | assumption | refine look_ne (by omega) ?_ | refine look_keep (by assumption) (by omega) (by simp; try omega) ?_)) rfl rfl) ?_
  refine stC rfl rfl rfl (impl_Heap_box_s _ _ _ _ _ _ ) ?_
  refine stC rfl rfl rfl (impl_box_valid_s _ _ _ _ _ ) ?_
  refine st rfl rfl (e_not rfl) ?_
  refine stB (fun hv => ?_) (fun hv => ?_)
  ·
    try simp only [decide_eq_true_eq, decide_eq_false_iff_not, Bool.not_eq_true', Bool.not_eq_false', Bool.not_eq_true, Bool.not_eq_false] at hv
    refine stEnd (hK _ [(1, _), (8, _)] _ _ rfl ?_)
    clear hK K
    refine W.condT rfl ?_
    refine W.sR [2] fun K hK => ?_
    refine st rfl rfl (e_assign rfl) ?_
    refine stEnd (hK _ [(2, _)] _ _ rfl ?_)
    clear hK K
    refine W.ret ?_
    refine thenR ?_
    refine ⟨.inr rfl, Ends.v0 (by repeat (first | exact self_old | assumption | refine set_old ?_ (by omega) | refine keep_old (by assumption) ?_ (by omega) (by simp; try omega))) hfresh (by first | rfl | (simp [ltT, ltA, ltC, ltV]; try omega)) (res1 (resT rfl) rfl) ?_⟩
    first | (rw [isHeap_no1 hv]) | (rw [isHeap_yes hv (fun j hj => hq j (by omega))]) | (rw [isHeap_no2 (i := i) (by omega) (by first | exact okAt_no1 (by assumption) | exact okAt_no2 (by omega) (by assumption) | exact okAt_no3 (by omega) (by assumption))])
  ·
    try simp only [decide_eq_true_eq, decide_eq_false_iff_not, Bool.not_eq_true', Bool.not_eq_false', Bool.not_eq_true, Bool.not_eq_false] at hv
    have hX := sides_bd hv
    refine stEnd (hK _ [(1, _), (8, _)] _ _ rfl ?_)
    clear hK K
    refine W.condF rfl ?_
    refine W.skip ?_
    refine thenN ?_
    refine W.seq ?_
    refine W.sR [1, 10, 11, 12] fun K hK => ?_
    refine st rfl rfl (e_fieldAddr t28 t22 rfl rfl) ?_
    refine st rfl rfl (e_load1 t22 rfl rfl (by repeat (first | exact look_same | assumption | refine look_ne (by omega) ?_ | refine look_keep (by assumption) (by omega) (by simp; try omega) ?_)) rfl) ?_
    refine st rfl rfl (e_len t22 rfl) ?_
    refine st rfl rfl (e_move rfl) ?_
    refine stEnd (hK _ [(1, _), (10, _), (11, _), (12, _)] _ _ rfl ?_)
    clear hK K
    refine W.block ?_
    refine W.ord [12, 1, 10, 11] (ts' := [(12, _)] ++ [(1, _), (10, _), (11, _)]) rfl ?_
    refine W.loopC [(12, _)] [] (fun κ V G μ => ∃ i : Nat, V = [(12, .int .i64 (i : Nat))] ∧ κ = cs.length - i ∧ (i ≤ cs.length) ∧ (∀ j, j < i → okAt X Y Z cs j = true)) _ ⟨0, rfl, rfl, (by first | omega | assumption | rfl | simp_all), (fun j hj => absurd hj (by omega))⟩ fun κ V G μ hinv hμ hkeep hfr => ?_
    obtain ⟨i, rfl, rfl, hi, hq⟩ := hinv
    refine W.sR [1, 10, 11, 12, 13] fun K hK => ?_
    refine st rfl rfl (e_lss rfl rfl) ?_
    refine stB (fun hb2 => ?_) (fun hb2 => ?_)
    ·
      try simp only [decide_eq_true_eq, decide_eq_false_iff_not, Bool.not_eq_true', Bool.not_eq_false', Bool.not_eq_true, Bool.not_eq_false] at hb2
      refine stEnd (hK _ [(1, _), (10, _), (11, _), (12, _), (13, _)] _ _ rfl ?_)
      clear hK K
      refine W.seq ?_
      refine W.condT rfl ?_
      refine W.skip ?_
      refine thenN ?_
      refine W.seq ?_
      refine W.block ?_
      refine W.sR [1, 3, 4, 10, 11, 12] fun K hK => ?_
      refine st rfl rfl (e_move rfl) ?_
      refine st rfl rfl (e_idxSK _ t22 t62 rfl rfl rfl (by first | omega | decide)) ?_
      refine st rfl rfl (e_loadP t62 rfl rfl (by repeat (first | exact look_same | assumption | refine look_ne (by omega) ?_ | refine look_keep (by assumption) (by omega) (by simp; try omega) ?_)) (flat_at (by omega))) ?_
      refine st rfl rfl (e_alloc t62 rfl) ?_
      refine st rfl rfl (e_assign rfl) ?_
      refine stN rfl (e_storeA t62 rfl rfl (by repeat (first | exact look_same | assumption | refine look_ne (by omega) ?_ | refine look_keep (by assumption) (by omega) (by simp; try omega) ?_)) rfl rfl rfl (by decide)) ?_
      refine stEnd (hK _ [(1, _), (3, _), (4, _), (10, _), (11, _), (12, _)] _ _ rfl ?_)
      clear hK K
      refine W.sD [1, 10, 11, 12, 36] [0, 1, 0, 7, 15, 31, 63, 127, 255, 511, 1023, 511, 2559, 8191, 16383, 511, 65535, 131071, 262143, 524287] (by kernel_rfl) (by kernel_rfl) fun K hK => ?_
      refine dL rfl rfl rfl (by omega) (accB_ok rfl) (e_loadA t28 rfl rfl (by repeat (first | exact look_same | assumption | refine look_ne (by omega) ?_ | refine look_keep (by assumption) (by omega) (by simp; try omega) ?_)) rfl rfl) ?_
      refine dC rfl rfl rfl rfl (impl_Heap_box_s _ _ _ _ _ _ ) (accB_ok rfl) ?_
      refine dL rfl rfl rfl (by omega) (by repeat (first | exact trivial | refine And.intro (Or.inl rfl) ?_ | refine And.intro (Or.inr trivial) ?_ | refine And.intro (Or.inr (And.intro (Or.inl (by omega)) (by first | (simp; done) | (simp; omega)))) ?_ | refine And.intro (Or.inr (And.intro (Or.inr (by omega)) (by first | (simp; done) | (simp; omega)))) ?_ | refine And.intro (Or.inr (by simp [compat]; try omega)) ?_)) (e_loadA t62 rfl rfl (by repeat (first | exact look_same | assumption | refine look_ne (by omega) ?_ | refine look_keep (by assumption) (by omega) (by simp; try omega) ?_)) rfl rfl) ?_
      refine dC rfl rfl rfl rfl (impl_box_has_s _ _ _ _ _ _ (by omega)) (accB_ok rfl) ?_
      refine dP rfl rfl rfl (e_not rfl) ?_
      refine dP rfl rfl rfl (e_move rfl) ?_
      refine dB (fun hb3 => ?_) (fun hb3 => ?_)
      ·
        try simp only [decide_eq_true_eq, decide_eq_false_iff_not, Bool.not_eq_true', Bool.not_eq_false', Bool.not_eq_true, Bool.not_eq_false] at hb3
        refine dS rfl rfl ?_
        refine dS rfl rfl ?_
        refine dS rfl rfl ?_
        refine dS rfl rfl ?_
        refine dS rfl rfl ?_
        refine dS rfl rfl ?_
        refine dS rfl rfl ?_
        refine dS rfl rfl ?_
        refine dS rfl rfl ?_
        refine dS rfl rfl ?_
        refine dS rfl rfl ?_
        refine dS rfl rfl ?_
        refine dS rfl rfl ?_
        refine dP rfl rfl rfl (e_pickT rfl rfl) ?_
        refine dEnd (hK _ [(1, _), (10, _), (11, _), (12, _), (36, _)] _ _ rfl ?_)
        clear hK K
        refine W.condT rfl ?_
        refine W.sR [2] fun K hK => ?_
        refine st rfl rfl (e_assign rfl) ?_
        refine stEnd (hK _ [(2, _)] _ _ rfl ?_)
        clear hK K
        refine W.ret ?_
        refine blockR ?_
        refine thenR ?_
        refine thenR ?_
        refine blockR ?_
        refine thenR ?_
        refine ⟨.inr rfl, Ends.v0 (by repeat (first | exact self_old | assumption | refine set_old ?_ (by omega) | refine keep_old (by assumption) ?_ (by omega) (by simp; try omega))) hfresh (by first | rfl | (simp [ltT, ltA, ltC, ltV]; try omega)) (res1 (resT rfl) rfl) ?_⟩
        first | (rw [isHeap_no1 hv]) | (rw [isHeap_yes hv (fun j hj => hq j (by omega))]) | (rw [isHeap_no2 (i := i) (by omega) (by first | exact okAt_no1 (by assumption) | exact okAt_no2 (by omega) (by assumption) | exact okAt_no3 (by omega) (by assumption))])
      ·
        try simp only [decide_eq_true_eq, decide_eq_false_iff_not, Bool.not_eq_true', Bool.not_eq_false', Bool.not_eq_true, Bool.not_eq_false] at hb3
        refine dP rfl rfl rfl (e_move rfl) ?_
        refine dP rfl rfl rfl (e_gtr rfl rfl) ?_
        refine dP rfl rfl rfl (e_move rfl) ?_
        refine dB (fun hb4 => ?_) (fun hb4 => ?_)
        ·
          try simp only [decide_eq_true_eq, decide_eq_false_iff_not, Bool.not_eq_true', Bool.not_eq_false', Bool.not_eq_true, Bool.not_eq_false] at hb4
          refine dP rfl rfl rfl (e_fieldAddr t28 t22 rfl rfl) ?_
          refine dL rfl rfl rfl (by omega) (accB_ok rfl) (e_load1 t22 rfl rfl (by repeat (first | exact look_same | assumption | refine look_ne (by omega) ?_ | refine look_keep (by assumption) (by omega) (by simp; try omega) ?_)) rfl) ?_
          refine dP rfl rfl rfl (e_move rfl) ?_
          refine dP rfl rfl rfl (e_sub rfl rfl (inB _ (by omega))) ?_
          refine dP rfl rfl rfl (e_idxSK (i - 1) t22 t62 rfl rfl (by first | rfl | omega) (by first | omega | decide)) ?_
          refine dL rfl rfl rfl (by omega) (accB_ok rfl) (e_loadP t62 rfl rfl (by repeat (first | exact look_same | assumption | refine look_ne (by omega) ?_ | refine look_keep (by assumption) (by omega) (by simp; try omega) ?_)) (flat_at (by omega))) ?_
          refine dL rfl rfl rfl (by omega) (accB_ok rfl) (e_loadA t62 rfl rfl (by repeat (first | exact look_same | assumption | refine look_ne (by omega) ?_ | refine look_keep (by assumption) (by omega) (by simp; try omega) ?_)) rfl rfl) ?_
          refine dC rfl rfl rfl rfl (impl_compareCells_s _ _ _ _ ) (accB_ok rfl) ?_
          refine dP rfl rfl rfl (e_geq rfl rfl) ?_
          refine dP rfl rfl rfl (e_pickT rfl rfl) ?_
          refine dP rfl rfl rfl (e_pickF rfl rfl) ?_
          refine dB (fun hb5 => ?_) (fun hb5 => ?_)
          ·
            try simp only [decide_eq_true_eq, decide_eq_false_iff_not, Bool.not_eq_true', Bool.not_eq_false', Bool.not_eq_true, Bool.not_eq_false] at hb5
            refine dEnd (hK _ [(1, _), (10, _), (11, _), (12, _), (36, _)] _ _ rfl ?_)
            clear hK K
            refine W.condT rfl ?_
            refine W.sR [2] fun K hK => ?_
            refine st rfl rfl (e_assign rfl) ?_
            refine stEnd (hK _ [(2, _)] _ _ rfl ?_)
            clear hK K
            refine W.ret ?_
            refine blockR ?_
            refine thenR ?_
            refine thenR ?_
            refine blockR ?_
            refine thenR ?_
            refine ⟨.inr rfl, Ends.v0 (by repeat (first | exact self_old | assumption | refine set_old ?_ (by omega) | refine keep_old (by assumption) ?_ (by omega) (by simp; try omega))) hfresh (by first | rfl | (simp [ltT, ltA, ltC, ltV]; try omega)) (res1 (resT rfl) rfl) ?_⟩
            first | (rw [isHeap_no1 hv]) | (rw [isHeap_yes hv (fun j hj => hq j (by omega))]) | (rw [isHeap_no2 (i := i) (by omega) (by first | exact okAt_no1 (by assumption) | exact okAt_no2 (by omega) (by assumption) | exact okAt_no3 (by omega) (by assumption))])
          ·
            try simp only [decide_eq_true_eq, decide_eq_false_iff_not, Bool.not_eq_true', Bool.not_eq_false', Bool.not_eq_true, Bool.not_eq_false] at hb5
            refine dEnd (hK _ [(1, _), (10, _), (11, _), (12, _), (36, _)] _ _ rfl ?_)
            clear hK K
            refine W.condF rfl ?_
            refine W.skip ?_
            refine blockN ?_
            refine thenN ?_
            refine W.rR [12, 1, 10, 11] fun K hK => ?_
            refine st rfl rfl (e_add rfl rfl (inB _ (by omega))) ?_
            refine st rfl rfl (e_move rfl) ?_
            refine stEnd (hK _ [(12, _), (1, _), (10, _), (11, _)] _ _ rfl ?_)
            clear hK K
            exact roundN (V' := [(12, _)]) [12, 1, 10, 11] rfl (by omega) (by repeat (first | exact Keeps.refl _ _ _ | assumption | refine Keeps.trans ?_ (by assumption) (by omega) (by simp; try omega) | refine Keeps.set ?_ (by first | exact Or.inl (by omega) | (simp; done) | (simp; omega)) | refine Keeps.del ?_ (by first | exact Or.inl (by omega) | (simp; done) | (simp; omega)) | refine Keeps.delO2 ?_ (by omega))) _ (by omega) ⟨i + 1, rfl, rfl, (by first | omega | assumption | simp_all), (all_succ hq (by first | exact okAt_yes1 (by assumption) (by omega) | exact okAt_yes2 (by assumption) (by assumption) | exact okAt_yes3 (by assumption) (by assumption)))⟩
        ·
          try simp only [decide_eq_true_eq, decide_eq_false_iff_not, Bool.not_eq_true', Bool.not_eq_false', Bool.not_eq_true, Bool.not_eq_false] at hb4
          refine dS rfl rfl ?_
          refine dS rfl rfl ?_
          refine dS rfl rfl ?_
          refine dS rfl rfl ?_
          refine dS rfl rfl ?_
          refine dS rfl rfl ?_
          refine dS rfl rfl ?_
          refine dS rfl rfl ?_
          refine dS rfl rfl ?_
          refine dP rfl rfl rfl (e_pickF rfl rfl) ?_
          refine dP rfl rfl rfl (e_pickF rfl rfl) ?_
          refine dEnd (hK _ [(1, _), (10, _), (11, _), (12, _), (36, _)] _ _ rfl ?_)
          clear hK K
          refine W.condF rfl ?_
          refine W.skip ?_
          refine blockN ?_
          refine thenN ?_
          refine W.rR [12, 1, 10, 11] fun K hK => ?_
          refine st rfl rfl (e_add rfl rfl (inB _ (by omega))) ?_
          refine st rfl rfl (e_move rfl) ?_
          refine stEnd (hK _ [(12, _), (1, _), (10, _), (11, _)] _ _ rfl ?_)
          clear hK K
          exact roundN (V' := [(12, _)]) [12, 1, 10, 11] rfl (by omega) (by repeat (first | exact Keeps.refl _ _ _ | assumption | refine Keeps.trans ?_ (by assumption) (by omega) (by simp; try omega) | refine Keeps.set ?_ (by first | exact Or.inl (by omega) | (simp; done) | (simp; omega)) | refine Keeps.del ?_ (by first | exact Or.inl (by omega) | (simp; done) | (simp; omega)) | refine Keeps.delO2 ?_ (by omega))) _ (by omega) ⟨i + 1, rfl, rfl, (by first | omega | assumption | simp_all), (all_succ hq (by first | exact okAt_yes1 (by assumption) (by omega) | exact okAt_yes2 (by assumption) (by assumption) | exact okAt_yes3 (by assumption) (by assumption)))⟩
    ·
      try simp only [decide_eq_true_eq, decide_eq_false_iff_not, Bool.not_eq_true', Bool.not_eq_false', Bool.not_eq_true, Bool.not_eq_false] at hb2
      refine stEnd (hK _ [(1, _), (10, _), (11, _), (12, _), (13, _)] _ _ rfl ?_)
      clear hK K
      refine W.seq ?_
      refine W.condF rfl ?_
      refine W.exit ?_
      refine thenE ?_
      refine thenE ?_
      refine blockX ?_
      refine thenN ?_
      refine W.sR [2] fun K hK => ?_
      refine st rfl rfl (e_assign rfl) ?_
      refine stEnd (hK _ [(2, _)] _ _ rfl ?_)
      clear hK K
      refine W.ret ?_
      refine ⟨.inr rfl, Ends.v0 (by repeat (first | exact self_old | assumption | refine set_old ?_ (by omega) | refine keep_old (by assumption) ?_ (by omega) (by simp; try omega))) hfresh (by first | rfl | (simp [ltT, ltA, ltC, ltV]; try omega)) (res1 (resT rfl) rfl) ?_⟩
      first | (rw [isHeap_no1 hv]) | (rw [isHeap_yes hv (fun j hj => hq j (by omega))]) | (rw [isHeap_no2 (i := i) (by omega) (by first | exact okAt_no1 (by assumption) | exact okAt_no2 (by omega) (by assumption) | exact okAt_no3 (by omega) (by assumption))])
theorem impl_box_index_s (X Y Z : Int) (c : C) (H : Heap) (n : Nat) (hX : (1 ≤ X ∧ X ≤ 4) ∧ (1 ≤ Y ∧ Y ≤ 4) ∧ (1 ≤ Z ∧ Z ≤ 4)) (hc : (0 ≤ c.1 ∧ c.1 < X) ∧ (0 ≤ c.2.1 ∧ c.2.1 < Y) ∧ (0 ≤ c.2.2 ∧ c.2.2 < Z)) : Fn Try.prog 69 [.agg #[.int .i64 X, .int .i64 Y, .int .i64 Z], .agg #[.int .i64 c.1, .int .i64 c.2.1, .int .i64 c.2.2]] H n (.int .i64 ((cellIx Y Z c : Nat) : Int)) (H) (n) := by
  refine Fn.intro' Try.func69 rfl (by kernel_rfl) Try.ntmps69 (by simp) (by omega) fun hfresh => ?_
  have hm := mul_bd (a := c.1) (b := Y) (by omega) (by omega)
  have hi := ix3 hX hc
  have hx := ix2 hc.1 hc.2.1 hX.2.1
  have hmz : 0 ≤ (c.1 * Y + c.2.1) * Z ∧ (c.1 * Y + c.2.1) * Z ≤ 64 := mulZ_bd (by omega) hX.2.2
  have hk := cellIx_cast hX hc
  show W _ _ _ ⟨[(0, _), (1, _)], _, _⟩ _
  refine W.sR [2, 3] fun K hK => ?_
  refine st rfl rfl (e_boxA rfl) ?_
  refine st rfl rfl (e_boxA rfl) ?_
  refine st rfl rfl (e_assign rfl) ?_
  refine stEnd (hK _ [(2, _), (3, _)] _ _ rfl ?_)
  clear hK K
  refine W.sR [4] fun K hK => ?_
  refine st rfl rfl (e_idxAK (0) t62 t3 rfl rfl (by first | rfl | omega) (by first | omega | decide)) ?_
  refine st rfl rfl (e_load1 t3 rfl rfl (by repeat (first | exact look_same | assumption | refine look_ne (by omega) ?_)) (by first | rfl | exact tri_getL (by omega))) ?_
  refine st rfl rfl (e_idxAK (1) t63 t3 rfl rfl (by first | rfl | omega) (by first | omega | decide)) ?_
  refine st rfl rfl (e_load1 t3 rfl rfl (by repeat (first | exact look_same | assumption | refine look_ne (by omega) ?_)) (by first | rfl | exact tri_getL (by omega))) ?_
  refine st rfl rfl (e_mul rfl rfl (inB _ (by omega))) ?_
  refine st rfl rfl (e_idxAK (1) t62 t3 rfl rfl (by first | rfl | omega) (by first | omega | decide)) ?_
  refine st rfl rfl (e_load1 t3 rfl rfl (by repeat (first | exact look_same | assumption | refine look_ne (by omega) ?_)) (by first | rfl | exact tri_getL (by omega))) ?_
  refine st rfl rfl (e_add rfl rfl (inB _ (by omega))) ?_
  refine st rfl rfl (e_idxAK (2) t63 t3 rfl rfl (by first | rfl | omega) (by first | omega | decide)) ?_
  refine st rfl rfl (e_load1 t3 rfl rfl (by repeat (first | exact look_same | assumption | refine look_ne (by omega) ?_)) (by first | rfl | exact tri_getL (by omega))) ?_
  refine st rfl rfl (e_mul rfl rfl (inB _ (by omega))) ?_
  refine st rfl rfl (e_idxAK (2) t62 t3 rfl rfl (by first | rfl | omega) (by first | omega | decide)) ?_
  refine st rfl rfl (e_load1 t3 rfl rfl (by repeat (first | exact look_same | assumption | refine look_ne (by omega) ?_)) (by first | rfl | exact tri_getL (by omega))) ?_
  refine st rfl rfl (e_add rfl rfl (inB _ (by omega))) ?_
  refine st rfl rfl (e_assign rfl) ?_
  refine stEnd (hK _ [(4, _)] _ _ rfl ?_)
  clear hK K
  refine W.ret ?_
  refine ⟨.inr rfl, Ends.v0 (by repeat (first | exact self_old | assumption | refine set_old ?_ (by omega))) hfresh (by first | rfl | (simp [ltT, ltA, ltC, ltV]; try omega)) (res1 (resT rfl) rfl) ?_⟩
  rw [← hk]
theorem impl_Heap_cubes_s (X Y Z : Int) (b : Nat) (ro : Bool) (cs : List C) (H : Heap) (n : Nat) (hb : H b = some (.cells ro (flat cs))) (hlen : cs.length ≤ 1048576) (hv : Valid X Y Z cs) : Fn Try.prog 74 [.agg #[.int .i64 X, .int .i64 Y, .int .i64 Z, .slice (some ⟨b, 0, none⟩) cs.length 3]] H n (U (mask Y Z cs)) (H) (n) := by
  refine Fn.intro' Try.func74 rfl (by kernel_rfl) Try.ntmps74 (by simp) (by omega) fun hfresh => ?_
  have lt_hb := lt_fresh hfresh hb
  have hX := hv.box
  show W _ _ _ ⟨[(0, _)], _, _⟩ _
  refine W.sR [1] fun K hK => ?_
  refine st rfl rfl (e_boxA rfl) ?_
  refine st rfl rfl (e_assign rfl) ?_
  refine stEnd (hK _ [(1, _)] _ _ rfl ?_)
  clear hK K
  refine W.sR [1, 3] fun K hK => ?_
  refine st rfl rfl (e_assign rfl) ?_
  refine stEnd (hK _ [(1, _), (3, _)] _ _ rfl ?_)
  clear hK K
  refine W.seq ?_
  refine W.sR [1, 3, 7, 8, 9] fun K hK => ?_
  refine st rfl rfl (e_fieldAddr t28 t22 rfl rfl) ?_
  refine st rfl rfl (e_load1 t22 rfl rfl (by repeat (first | exact look_same | assumption | refine look_ne (by omega) ?_ | refine look_keep (by assumption) (by omega) (by simp; try omega) ?_)) rfl) ?_
  refine st rfl rfl (e_len t22 rfl) ?_
  refine st rfl rfl (e_move rfl) ?_
  refine stEnd (hK _ [(1, _), (3, _), (7, _), (8, _), (9, _)] _ _ rfl ?_)
  clear hK K
  refine W.block ?_
  refine W.ord [3, 9, 1, 7, 8] (ts' := [(3, _), (9, _)] ++ [(1, _), (7, _), (8, _)]) rfl ?_
  refine W.loopC [(3, _), (9, _)] [] (fun κ V G μ => ∃ i : Nat, V = [(3, U (maskN Y Z cs i)), (9, .int .i64 (i : Nat))] ∧ κ = cs.length - i ∧ (i ≤ cs.length)) _ ⟨0, rfl, rfl, (by first | omega | assumption | rfl | simp_all)⟩ fun κ V G μ hinv hμ hkeep hfr => ?_
  obtain ⟨i, rfl, rfl, hi⟩ := hinv
  refine W.sR [1, 3, 7, 8, 9, 10] fun K hK => ?_
  refine st rfl rfl (e_lss rfl rfl) ?_
  refine stB (fun hb1 => ?_) (fun hb1 => ?_)
  ·
    try simp only [decide_eq_true_eq, decide_eq_false_iff_not, Bool.not_eq_true', Bool.not_eq_false', Bool.not_eq_true, Bool.not_eq_false] at hb1
    refine stEnd (hK _ [(1, _), (3, _), (7, _), (8, _), (9, _), (10, _)] _ _ rfl ?_)
    clear hK K
    refine W.seq ?_
    refine W.condT rfl ?_
    refine W.skip ?_
    refine thenN ?_
    refine W.seq ?_
    refine W.block ?_
    have hc := hv.inn _ (at3_mem (show i < cs.length by omega))
    refine W.sR [1, 3, 5, 7, 8, 9] fun K hK => ?_
    refine st rfl rfl (e_idxSK _ t22 t62 rfl rfl rfl (by first | omega | decide)) ?_
    refine st rfl rfl (e_loadP t62 rfl rfl (by repeat (first | exact look_same | assumption | refine look_ne (by omega) ?_ | refine look_keep (by assumption) (by omega) (by simp; try omega) ?_)) (flat_at (by omega))) ?_
    refine st rfl rfl (e_alloc t62 rfl) ?_
    refine stN rfl (e_storeA t62 rfl rfl (by repeat (first | exact look_same | assumption | refine look_ne (by omega) ?_ | refine look_keep (by assumption) (by omega) (by simp; try omega) ?_)) rfl rfl rfl (by decide)) ?_
    refine stEnd (hK _ [(1, _), (3, _), (5, _), (7, _), (8, _), (9, _)] _ _ rfl ?_)
    clear hK K
    refine W.rD [1, 3, 7, 8, 9] [0, 0, 2, 0, 14, 30, 63, 127] (by kernel_rfl) (by kernel_rfl) fun K hK => ?_
    refine dP rfl rfl rfl (e_move rfl) ?_
    refine dL rfl rfl rfl (by omega) (accB_ok rfl) (e_loadA t28 rfl rfl (by repeat (first | exact look_same | assumption | refine look_ne (by omega) ?_ | refine look_keep (by assumption) (by omega) (by simp; try omega) ?_)) rfl rfl) ?_
    refine dC rfl rfl rfl rfl (impl_Heap_box_s _ _ _ _ _ _ ) (accB_ok rfl) ?_
    refine dL rfl rfl rfl (by omega) (by repeat (first | exact trivial | refine And.intro (Or.inl rfl) ?_ | refine And.intro (Or.inr trivial) ?_ | refine And.intro (Or.inr (And.intro (Or.inl (by omega)) (by first | (simp; done) | (simp; omega)))) ?_ | refine And.intro (Or.inr (And.intro (Or.inr (by omega)) (by first | (simp; done) | (simp; omega)))) ?_ | refine And.intro (Or.inr (by simp [compat]; try omega)) ?_)) (e_loadA t62 rfl rfl (by repeat (first | exact look_same | assumption | refine look_ne (by omega) ?_ | refine look_keep (by assumption) (by omega) (by simp; try omega) ?_)) rfl rfl) ?_
    refine dC rfl rfl rfl rfl (impl_box_index_s _ _ _ _ _ _ (by assumption) (by assumption)) (accB_ok rfl) ?_
    refine dP rfl rfl rfl (e_shlU (_) (ev_cU (k := 1) (by decide) rfl) rfl rfl) ?_
    refine dP rfl rfl rfl (e_orU rfl rfl) ?_
    refine dP rfl rfl rfl (e_assign rfl) ?_
    refine dEnd (hK _ [(1, _), (3, _), (7, _), (8, _), (9, _)] _ _ rfl ?_)
    clear hK K
    refine blockN ?_
    refine thenN ?_
    refine W.rR [3, 9, 1, 7, 8] fun K hK => ?_
    refine st rfl rfl (e_add rfl rfl (inB _ (by omega))) ?_
    refine st rfl rfl (e_move rfl) ?_
    refine stEnd (hK _ [(3, _), (9, _), (1, _), (7, _), (8, _)] _ _ rfl ?_)
    clear hK K
    exact roundN (V' := [(3, _), (9, _)]) [3, 9, 1, 7, 8] rfl (by omega) (by repeat (first | exact Keeps.refl _ _ _ | assumption | refine Keeps.trans ?_ (by assumption) (by omega) (by simp; try omega) | refine Keeps.set ?_ (by first | exact Or.inl (by omega) | (simp; done) | (simp; omega)) | refine Keeps.del ?_ (by first | exact Or.inl (by omega) | (simp; done) | (simp; omega)) | refine Keeps.delO2 ?_ (by omega))) _ (by omega) ⟨i + 1, (by rw [maskN_succ (by omega)]; rfl), rfl, (by first | omega | assumption | simp_all)⟩
  ·
    try simp only [decide_eq_true_eq, decide_eq_false_iff_not, Bool.not_eq_true', Bool.not_eq_false', Bool.not_eq_true, Bool.not_eq_false] at hb1
    refine stEnd (hK _ [(1, _), (3, _), (7, _), (8, _), (9, _), (10, _)] _ _ rfl ?_)
    clear hK K
    refine W.seq ?_
    refine W.condF rfl ?_
    refine W.exit ?_
    refine thenE ?_
    refine thenE ?_
    refine blockX ?_
    refine thenN ?_
    refine W.sR [2] fun K hK => ?_
    refine st rfl rfl (e_move rfl) ?_
    refine st rfl rfl (e_assign rfl) ?_
    refine stEnd (hK _ [(2, _)] _ _ rfl ?_)
    clear hK K
    refine W.ret ?_
    refine ⟨.inr rfl, Ends.v0 (by repeat (first | exact self_old | assumption | refine set_old ?_ (by omega) | refine keep_old (by assumption) ?_ (by omega) (by simp; try omega))) hfresh (by first | rfl | (simp [ltT, ltA, ltC, ltV]; try omega)) (res1 (resT rfl) rfl) ?_⟩
    (obtain rfl : i = cs.length := by omega); rfl
theorem impl_box_size_s (X Y Z : Int) (H : Heap) (n : Nat) (hX : (1 ≤ X ∧ X ≤ 4) ∧ (1 ≤ Y ∧ Y ≤ 4) ∧ (1 ≤ Z ∧ Z ≤ 4)) : Fn Try.prog 111 [.agg #[.int .i64 X, .int .i64 Y, .int .i64 Z]] H n (.int .i64 ((vol X Y Z : Nat) : Int)) (H) (n) := by
  refine Fn.intro' Try.func111 rfl (by kernel_rfl) Try.ntmps111 (by simp) (by omega) fun hfresh => ?_
  have hv := vol_cast hX
  have hv2 := vol_le hX
  have hxy := mulXY hX.1 hX.2.1
  show W _ _ _ ⟨[(0, _)], _, _⟩ _
  refine W.sR [1] fun K hK => ?_
  refine st rfl rfl (e_boxA rfl) ?_
  refine st rfl rfl (e_assign rfl) ?_
  refine stEnd (hK _ [(1, _)] _ _ rfl ?_)
  clear hK K
  refine W.sR [2] fun K hK => ?_
  refine st rfl rfl (e_idxAK (0) t63 t3 rfl rfl (by first | rfl | omega) (by first | omega | decide)) ?_
  refine st rfl rfl (e_load1 t3 rfl rfl (by repeat (first | exact look_same | assumption | refine look_ne (by omega) ?_)) (by first | rfl | exact tri_getL (by omega))) ?_
  refine st rfl rfl (e_idxAK (1) t63 t3 rfl rfl (by first | rfl | omega) (by first | omega | decide)) ?_
  refine st rfl rfl (e_load1 t3 rfl rfl (by repeat (first | exact look_same | assumption | refine look_ne (by omega) ?_)) (by first | rfl | exact tri_getL (by omega))) ?_
  refine st rfl rfl (e_mul rfl rfl (inB _ (by omega))) ?_
  refine st rfl rfl (e_idxAK (2) t63 t3 rfl rfl (by first | rfl | omega) (by first | omega | decide)) ?_
  refine st rfl rfl (e_load1 t3 rfl rfl (by repeat (first | exact look_same | assumption | refine look_ne (by omega) ?_)) (by first | rfl | exact tri_getL (by omega))) ?_
  refine st rfl rfl (e_mul rfl rfl (inB _ (by omega))) ?_
  refine st rfl rfl (e_assign rfl) ?_
  refine stEnd (hK _ [(2, _)] _ _ rfl ?_)
  clear hK K
  refine W.ret ?_
  refine ⟨.inr rfl, Ends.v0 (by repeat (first | exact self_old | assumption | refine set_old ?_ (by omega))) hfresh (by first | rfl | (simp [ltT, ltA, ltC, ltV]; try omega)) (res1 (resT rfl) rfl) ?_⟩
  rw [← hv]
theorem impl_set_has_s (s : BitVec 64) (i : Nat) (H : Heap) (n : Nat) (hi : i < 64) : Fn Try.prog 68 [U s, .int .i64 (i : Nat)] H n (.bool (s.getLsbD i)) (H) (n) := by
  refine Fn.intro' Try.func68 rfl (by kernel_rfl) Try.ntmps68 (by simp) (by omega) fun hfresh => ?_
  show W _ _ _ ⟨[(0, _), (1, _)], _, _⟩ _
  refine W.sR [0, 1] fun K hK => ?_
  refine st rfl rfl (e_assign rfl) ?_
  refine stEnd (hK _ [(0, _), (1, _)] _ _ rfl ?_)
  clear hK K
  refine W.sR [4] fun K hK => ?_
  refine st rfl rfl (e_move rfl) ?_
  refine st rfl rfl (e_move rfl) ?_
  refine st rfl rfl (e_shrU (i) rfl rfl rfl) ?_
  refine st rfl rfl (e_andU rfl (ev_cU (k := 1) (by decide) rfl)) ?_
  refine st rfl rfl (e_eqlU rfl (ev_cU (k := 1) (by decide) rfl)) ?_
  refine st rfl rfl (e_assign rfl) ?_
  refine stEnd (hK _ [(4, _)] _ _ rfl ?_)
  clear hK K
  refine W.ret ?_
  refine ⟨.inr rfl, Ends.v0 (by repeat (first | exact self_old | assumption | refine set_old ?_ (by omega))) hfresh (by first | rfl | (simp [ltT, ltA, ltC, ltV]; try omega)) (res1 (resT rfl) rfl) ?_⟩
  exact congrArg Value.bool (has_bit hi)
theorem bld62_0_1_2 (v0 : Value) (v1 : Value) (v2 : Value) (h0 : oneV v0 = true) (h1 : oneV v1 = true) (h2 : oneV v2 = true) : cBuild Try.prog 62 [(0, v0), (1, v1), (2, v2)] = some (.agg #[v0, v1, v2]) := by
  simp [cBuild, t62, t3, fieldsOk, placesC, fillC, konst0, putC, (oneV_cells h0).1, (oneV_cells h1).1, (oneV_cells h2).1]
theorem impl_box_cell_s (X Y Z : Int) (i : Nat) (H : Heap) (n : Nat) (hX : (1 ≤ X ∧ X ≤ 4) ∧ (1 ≤ Y ∧ Y ≤ 4) ∧ (1 ≤ Z ∧ Z ≤ 4)) (hi : i < vol X Y Z) : Fn Try.prog 99 [.agg #[.int .i64 X, .int .i64 Y, .int .i64 Z], .int .i64 (i : Nat)] H n (.agg #[.int .i64 (cellAt Y Z i).1, .int .i64 (cellAt Y Z i).2.1, .int .i64 (cellAt Y Z i).2.2]) (H) (n) := by
  refine Fn.intro' Try.func99 rfl (by kernel_rfl) Try.ntmps99 (by simp) (by omega) fun hfresh => ?_
  have hv := vol_le hX
  have hq := quo_bd (i := (i : Int)) (k := Z) (by omega) hX.2.2
  have hq2 := quo_bd (i := (i : Int).tdiv Z) (k := Y) hq.1 hX.2.1
  show W _ _ _ ⟨[(0, _), (1, _)], _, _⟩ _
  refine W.sR [1, 2, 4] fun K hK => ?_
  refine st rfl rfl (e_boxA rfl) ?_
  refine st rfl rfl (e_alloc t62 rfl) ?_
  refine stEnd (hK _ [(1, _), (2, _), (4, _)] _ _ rfl ?_)
  clear hK K
  refine W.sD [4] [0, 0, 2, 7, 0, 16, 63, 0, 0, 256, 896, 0, 2048, 8064, 0, 0, 32768, 114688, 262143, 524287] (by kernel_rfl) (by kernel_rfl) fun K hK => ?_
  refine dP rfl rfl rfl (e_move rfl) ?_
  refine dP rfl rfl rfl (e_idxAK (2) t63 t3 rfl rfl (by first | rfl | omega) (by first | omega | decide)) ?_
  refine dL rfl rfl rfl (by omega) (accB_ok rfl) (e_load1 t3 rfl rfl (by repeat (first | exact look_same | assumption | refine look_ne (by omega) ?_)) (by first | rfl | exact tri_getL (by omega))) ?_
  refine dP rfl rfl rfl (e_quo rfl rfl (by omega) (inB _ (by omega))) ?_
  refine dP rfl rfl rfl (e_idxAK (1) t63 t3 rfl rfl (by first | rfl | omega) (by first | omega | decide)) ?_
  refine dL rfl rfl rfl (by omega) (accB_ok rfl) (e_load1 t3 rfl rfl (by repeat (first | exact look_same | assumption | refine look_ne (by omega) ?_)) (by first | rfl | exact tri_getL (by omega))) ?_
  refine dP rfl rfl rfl (e_quo rfl rfl (by omega) (inB _ (by omega))) ?_
  refine dP rfl rfl rfl (e_move rfl) ?_
  refine dP rfl rfl rfl (e_idxAK (2) t63 t3 rfl rfl (by first | rfl | omega) (by first | omega | decide)) ?_
  refine dL rfl rfl rfl (by omega) (accB_ok rfl) (e_load1 t3 rfl rfl (by repeat (first | exact look_same | assumption | refine look_ne (by omega) ?_)) (by first | rfl | exact tri_getL (by omega))) ?_
  refine dP rfl rfl rfl (e_quo rfl rfl (by omega) (inB _ (by omega))) ?_
  refine dP rfl rfl rfl (e_idxAK (1) t63 t3 rfl rfl (by first | rfl | omega) (by first | omega | decide)) ?_
  refine dL rfl rfl rfl (by omega) (accB_ok rfl) (e_load1 t3 rfl rfl (by repeat (first | exact look_same | assumption | refine look_ne (by omega) ?_)) (by first | rfl | exact tri_getL (by omega))) ?_
  refine dP rfl rfl rfl (e_rem rfl rfl (by omega)) ?_
  refine dP rfl rfl rfl (e_move rfl) ?_
  refine dP rfl rfl rfl (e_idxAK (2) t63 t3 rfl rfl (by first | rfl | omega) (by first | omega | decide)) ?_
  refine dL rfl rfl rfl (by omega) (accB_ok rfl) (e_load1 t3 rfl rfl (by repeat (first | exact look_same | assumption | refine look_ne (by omega) ?_)) (by first | rfl | exact tri_getL (by omega))) ?_
  refine dP rfl rfl rfl (e_rem rfl rfl (by omega)) ?_
  refine dP rfl rfl rfl (e_build rfl rfl (bld62_0_1_2 _ _ _ rfl rfl rfl)) ?_
  refine dSt rfl rfl (e_storeA t62 rfl rfl (by repeat (first | exact look_same | assumption | refine look_ne (by omega) ?_ | refine look_hide (by omega) (by first | exact List.not_mem_nil | (simp [hidden, Nat.testBit]; done) | (simp [hidden, Nat.testBit]; omega)) ?_)) rfl rfl rfl (by decide)) (by omega) (by first | exact List.not_mem_nil | (simp [hidden, Nat.testBit]; done) | (simp [hidden, Nat.testBit]; omega)) (accB_ok rfl) ?_
  refine dEnd (hK _ [(4, _)] _ _ rfl ?_)
  clear hK K
  refine W.ret ?_
  refine ⟨.inr rfl, Ends.v0 (by repeat (first | exact self_old | assumption | refine set_old ?_ (by omega))) hfresh (by first | rfl | (simp [ltT, ltA, ltC, ltV]; try omega)) (res1 (resC t62 rfl rfl (by repeat (first | exact look_same | assumption | refine look_ne (by omega) ?_)) rfl rfl) rfl) ?_⟩
  rw [cellAt_t (by omega) (by omega)]
theorem impl_box_list_s (X Y Z : Int) (s : BitVec 64) (H : Heap) (n : Nat) (hX : (1 ≤ X ∧ X ≤ 4) ∧ (1 ≤ Y ∧ Y ≤ 4) ∧ (1 ≤ Z ∧ Z ≤ 4)) : Fn Try.prog 90 [.agg #[.int .i64 X, .int .i64 Y, .int .i64 Z], U s] H n (.slice (some ⟨n, 0, none⟩) (cellsOf X Y Z s).length 3) (H.set n (.cells false (flat (cellsOf X Y Z s)))) (n + 1) := by
  refine Fn.intro' Try.func90 rfl (by kernel_rfl) Try.ntmps90 (by simp) (by omega) fun hfresh => ?_
  have hv := vol_le hX
  show W _ _ _ ⟨[(0, _), (1, _)], _, _⟩ _
  refine W.sR [1, 2] fun K hK => ?_
  refine st rfl rfl (e_boxA rfl) ?_
  refine st rfl rfl (e_assign rfl) ?_
  refine stEnd (hK _ [(1, _), (2, _)] _ _ rfl ?_)
  clear hK K
  refine W.sR [1, 2, 5] fun K hK => ?_
  refine st rfl rfl (e_buildSlice rfl rfl (bsl22_0)) ?_
  refine st rfl rfl (e_assign rfl) ?_
  refine stEnd (hK _ [(1, _), (2, _), (5, _)] _ _ rfl ?_)
  clear hK K
  refine W.seq ?_
  refine W.sR [1, 2, 5, 9, 10] fun K hK => ?_
  refine st rfl rfl (e_loadA t63 rfl rfl (by repeat (first | exact look_same | assumption | refine look_ne (by omega) ?_ | refine look_del (by omega) ?_ | refine look_keep (by assumption) (by omega) (by simp; try omega) ?_)) rfl rfl) ?_
  refine stC rfl rfl rfl (impl_box_size_s _ _ _ _ _ (by omega)) ?_
  refine st rfl rfl (e_move rfl) ?_
  refine stEnd (hK _ [(1, _), (2, _), (5, _), (9, _), (10, _)] _ _ rfl ?_)
  clear hK K
  refine W.block ?_
  refine W.ord [5, 10, 1, 2, 9] (ts' := [(5, _), (10, _)] ++ [(1, _), (2, _), (9, _)]) rfl ?_
  refine W.loopC [(5, _), (10, _)] [n + 1] (fun κ V G μ => ∃ i p : Nat, V = [(5, .slice (some ⟨p, 0, none⟩) (cellsTo Y Z s i).length 3), (10, .int .i64 (i : Nat))] ∧ κ = vol X Y Z - i ∧ (i ≤ vol X Y Z) ∧ ((p = n + 1 ∨ n + 1 + 1 ≤ p) ∧ p < μ) ∧ (G p = some (.cells false (flat (cellsTo Y Z s i))))) _ ⟨0, n + 1, rfl, rfl, (by first | omega | assumption | rfl | simp_all), (by omega), look_same⟩ fun κ V G μ hinv hμ hkeep hfr => ?_
  obtain ⟨i, p, rfl, rfl, hi, hp, hG⟩ := hinv
  refine W.sR [1, 2, 5, 9, 10, 11] fun K hK => ?_
  refine st rfl rfl (e_lss rfl rfl) ?_
  refine stB (fun hb1 => ?_) (fun hb1 => ?_)
  ·
    try simp only [decide_eq_true_eq, decide_eq_false_iff_not, Bool.not_eq_true', Bool.not_eq_false', Bool.not_eq_true, Bool.not_eq_false] at hb1
    refine stEnd (hK _ [(1, _), (2, _), (5, _), (9, _), (10, _), (11, _)] _ _ rfl ?_)
    clear hK K
    refine W.seq ?_
    refine W.condT rfl ?_
    refine W.skip ?_
    refine thenN ?_
    refine W.seq ?_
    refine W.block ?_
    refine W.sR [1, 2, 5, 6, 9, 10] fun K hK => ?_
    refine st rfl rfl (e_move rfl) ?_
    refine st rfl rfl (e_assign rfl) ?_
    refine stEnd (hK _ [(1, _), (2, _), (5, _), (6, _), (9, _), (10, _)] _ _ rfl ?_)
    clear hK K
    refine W.sR [1, 2, 5, 6, 9, 10, 15] fun K hK => ?_
    refine st rfl rfl (e_move rfl) ?_
    refine st rfl rfl (e_move rfl) ?_
    refine stC rfl rfl rfl (impl_set_has_s _ _ _ _ (by omega)) ?_
    refine stB (fun hb => ?_) (fun hb => ?_)
    ·
      try simp only [decide_eq_true_eq, decide_eq_false_iff_not, Bool.not_eq_true', Bool.not_eq_false', Bool.not_eq_true, Bool.not_eq_false] at hb
      refine stEnd (hK _ [(1, _), (2, _), (5, _), (6, _), (9, _), (10, _), (15, _)] _ _ rfl ?_)
      clear hK K
      refine W.condT rfl ?_
      refine W.rR [1, 2, 5, 9, 10] fun K hK => ?_
      refine st rfl rfl (e_move rfl) ?_
      refine st rfl rfl (e_loadA t63 rfl rfl (by repeat (first | exact look_same | assumption | refine look_ne (by omega) ?_ | refine look_del (by omega) ?_ | refine look_keep (by assumption) (by omega) (by simp; try omega) ?_)) rfl rfl) ?_
      refine st rfl rfl (e_move rfl) ?_
      refine stC rfl rfl rfl (impl_box_cell_s _ _ _ _ _ _ (by assumption) (by omega)) ?_
      refine st rfl rfl (e_buildSlice rfl rfl (bsl22_1)) ?_
      refine st rfl rfl (e_append t22 t22 t62 rfl rfl (by repeat (first | exact look_same | assumption | refine look_ne (by omega) ?_ | refine look_del (by omega) ?_ | refine look_keep (by assumption) (by omega) (by simp; try omega) ?_)) (by repeat (first | exact look_same | assumption | refine look_ne (by omega) ?_ | refine look_del (by omega) ?_ | refine look_keep (by assumption) (by omega) (by simp; try omega) ?_)) (by decide) (flat_length _) rfl (by have := cellsTo_len Y Z s i; omega)) ?_
      refine st rfl rfl (e_assign rfl) ?_
      refine stEnd (hK _ [(1, _), (2, _), (5, _), (9, _), (10, _)] _ _ rfl ?_)
      clear hK K
      refine blockN ?_
      refine thenN ?_
      refine W.rR [5, 10, 1, 2, 9] fun K hK => ?_
      refine st rfl rfl (e_add rfl rfl (inB _ (by omega))) ?_
      refine st rfl rfl (e_move rfl) ?_
      refine stEnd (hK _ [(5, _), (10, _), (1, _), (2, _), (9, _)] _ _ rfl ?_)
      clear hK K
      exact roundN (V' := [(5, _), (10, _)]) [5, 10, 1, 2, 9] rfl (by omega) (by repeat (first | exact Keeps.refl _ _ _ | assumption | refine Keeps.trans ?_ (by assumption) (by omega) (by simp; try omega) | refine Keeps.set ?_ (by first | exact Or.inl (by omega) | (simp; done) | (simp; omega)) | refine Keeps.del ?_ (by first | exact Or.inl (by omega) | (simp; done) | (simp; omega)) | refine Keeps.delO2 ?_ (by omega))) _ (by omega) ⟨i + 1, μ + 1, (by first | (rw [cellsTo_T hb]; simp) | (rw [cellsTo_F hb]; rfl)), rfl, (by first | omega | assumption | simp_all), (by omega), (by first | exact (look_same.trans (congrArg some (congrArg (Blk.cells false) (by rw [cellsTo_T hb]; exact flat_snoc _ _)))) | (rw [cellsTo_F hb]; exact (by repeat (first | exact look_same | assumption | refine look_ne (by omega) ?_ | refine look_keep (by assumption) (by omega) (by simp; try omega) ?_))))⟩
    ·
      try simp only [decide_eq_true_eq, decide_eq_false_iff_not, Bool.not_eq_true', Bool.not_eq_false', Bool.not_eq_true, Bool.not_eq_false] at hb
      refine stEnd (hK _ [(1, _), (2, _), (5, _), (6, _), (9, _), (10, _), (15, _)] _ _ rfl ?_)
      clear hK K
      refine W.condF rfl ?_
      refine W.skip ?_
      refine blockN ?_
      refine thenN ?_
      refine W.rR [5, 10, 1, 2, 9] fun K hK => ?_
      refine st rfl rfl (e_add rfl rfl (inB _ (by omega))) ?_
      refine st rfl rfl (e_move rfl) ?_
      refine stEnd (hK _ [(5, _), (10, _), (1, _), (2, _), (9, _)] _ _ rfl ?_)
      clear hK K
      exact roundN (V' := [(5, _), (10, _)]) [5, 10, 1, 2, 9] rfl (by omega) (by repeat (first | exact Keeps.refl _ _ _ | assumption | refine Keeps.trans ?_ (by assumption) (by omega) (by simp; try omega) | refine Keeps.set ?_ (by first | exact Or.inl (by omega) | (simp; done) | (simp; omega)) | refine Keeps.del ?_ (by first | exact Or.inl (by omega) | (simp; done) | (simp; omega)) | refine Keeps.delO2 ?_ (by omega))) _ (by omega) ⟨i + 1, p, (by first | (rw [cellsTo_T hb]; simp) | (rw [cellsTo_F hb]; rfl)), rfl, (by first | omega | assumption | simp_all), (by omega), (by first | exact (look_same.trans (congrArg some (congrArg (Blk.cells false) (by rw [cellsTo_T hb]; exact flat_snoc _ _)))) | (rw [cellsTo_F hb]; exact (by repeat (first | exact look_same | assumption | refine look_ne (by omega) ?_ | refine look_keep (by assumption) (by omega) (by simp; try omega) ?_))))⟩
  ·
    try simp only [decide_eq_true_eq, decide_eq_false_iff_not, Bool.not_eq_true', Bool.not_eq_false', Bool.not_eq_true, Bool.not_eq_false] at hb1
    refine stEnd (hK _ [(1, _), (2, _), (5, _), (9, _), (10, _), (11, _)] _ _ rfl ?_)
    clear hK K
    refine W.seq ?_
    refine W.condF rfl ?_
    refine W.exit ?_
    refine thenE ?_
    refine thenE ?_
    refine blockX ?_
    refine thenN ?_
    refine W.sR [4] fun K hK => ?_
    refine st rfl rfl (e_move rfl) ?_
    refine st rfl rfl (e_assign rfl) ?_
    refine stEnd (hK _ [(4, _)] _ _ rfl ?_)
    clear hK K
    refine W.ret ?_
    refine ⟨.inr rfl, Ends.v1 (p) (by omega) (by repeat (first | exact self_old | assumption | refine set_old ?_ (by omega) | refine del_old ?_ (by omega) | refine keep_old (by assumption) ?_ (by omega) (by simp; try omega))) hfresh (by repeat (first | exact look_same | assumption | refine look_ne (by omega) ?_ | refine look_del (by omega) ?_ | refine look_keep (by assumption) (by omega) (by simp; try omega) ?_)) ?_ (by first | exact flat_plain _ | exact ints_plain _) (by simp [ltT, ltA, ltC, ltV]; try omega) (res1 (resT rfl) rfl) ?_⟩
    · (obtain rfl : i = vol X Y Z := by omega); rfl
    · (obtain rfl : i = vol X Y Z := by omega); simp [renT, renV, renC, renA, one, cellsTo_all]
theorem impl_box_those_s (X Y Z : Int) (fid : Nat) (caps : List Value) (f : C → Bool) (H : Heap) (n : Nat) (hX : (1 ≤ X ∧ X ≤ 4) ∧ (1 ≤ Y ∧ Y ≤ 4) ∧ (1 ≤ Z ∧ Z ≤ 4)) (hf : ∀ (G : Heap) (m : Nat) (i : Nat), i < vol X Y Z → n ≤ m → (∀ x k, x < n → H x = some k → G x = some k) → Fn Try.prog fid (.agg #[.int .i64 (cellAt Y Z i).1, .int .i64 (cellAt Y Z i).2.1, .int .i64 (cellAt Y Z i).2.2] :: caps) G m (.bool (f (cellAt Y Z i))) G m) : Fn Try.prog 121 [.agg #[.int .i64 X, .int .i64 Y, .int .i64 Z], .func (.func fid) #[] (List.toArray caps)] H n (U (thoseTo Y Z f (vol X Y Z))) (H) (n) := by
  refine Fn.intro' Try.func121 rfl (by kernel_rfl) Try.ntmps121 (by simp) (by omega) fun hfresh => ?_
  have hv := vol_le hX
  show W _ _ _ ⟨[(0, _), (1, _)], _, _⟩ _
  refine W.sR [1, 2] fun K hK => ?_
  refine st rfl rfl (e_boxA rfl) ?_
  refine st rfl rfl (e_assign rfl) ?_
  refine stEnd (hK _ [(1, _), (2, _)] _ _ rfl ?_)
  clear hK K
  refine W.sR [1, 2, 5] fun K hK => ?_
  refine st rfl rfl (e_assign rfl) ?_
  refine stEnd (hK _ [(1, _), (2, _), (5, _)] _ _ rfl ?_)
  clear hK K
  refine W.seq ?_
  refine W.sR [1, 2, 5, 8, 9] fun K hK => ?_
  refine st rfl rfl (e_loadA t63 rfl rfl (by repeat (first | exact look_same | assumption | refine look_ne (by omega) ?_ | refine look_keep (by assumption) (by omega) (by simp; try omega) ?_)) rfl rfl) ?_
  refine stC rfl rfl rfl (impl_box_size_s _ _ _ _ _ (by omega)) ?_
  refine st rfl rfl (e_move rfl) ?_
  refine stEnd (hK _ [(1, _), (2, _), (5, _), (8, _), (9, _)] _ _ rfl ?_)
  clear hK K
  refine W.block ?_
  refine W.ord [5, 9, 1, 2, 8] (ts' := [(5, _), (9, _)] ++ [(1, _), (2, _), (8, _)]) rfl ?_
  refine W.loopC [(5, _), (9, _)] [] (fun κ V G μ => ∃ i : Nat, V = [(5, U (thoseTo Y Z f i)), (9, .int .i64 (i : Nat))] ∧ κ = vol X Y Z - i ∧ (i ≤ vol X Y Z)) _ ⟨0, rfl, rfl, (by first | omega | assumption | rfl | simp_all)⟩ fun κ V G μ hinv hμ hkeep hfr => ?_
  obtain ⟨i, rfl, rfl, hi⟩ := hinv
  refine W.sR [1, 2, 5, 8, 9, 10] fun K hK => ?_
  refine st rfl rfl (e_lss rfl rfl) ?_
  refine stB (fun hb1 => ?_) (fun hb1 => ?_)
  ·
    try simp only [decide_eq_true_eq, decide_eq_false_iff_not, Bool.not_eq_true', Bool.not_eq_false', Bool.not_eq_true, Bool.not_eq_false] at hb1
    refine stEnd (hK _ [(1, _), (2, _), (5, _), (8, _), (9, _), (10, _)] _ _ rfl ?_)
    clear hK K
    refine W.seq ?_
    refine W.condT rfl ?_
    refine W.skip ?_
    refine thenN ?_
    refine W.seq ?_
    refine W.block ?_
    refine W.sR [1, 2, 5, 6, 8, 9] fun K hK => ?_
    refine st rfl rfl (e_move rfl) ?_
    refine st rfl rfl (e_assign rfl) ?_
    refine stEnd (hK _ [(1, _), (2, _), (5, _), (6, _), (8, _), (9, _)] _ _ rfl ?_)
    clear hK K
    refine W.sR [1, 2, 5, 6, 8, 9, 16] fun K hK => ?_
    refine st rfl rfl (e_move rfl) ?_
    refine st rfl rfl (e_loadA t63 rfl rfl (by repeat (first | exact look_same | assumption | refine look_ne (by omega) ?_ | refine look_keep (by assumption) (by omega) (by simp; try omega) ?_)) rfl rfl) ?_
    refine st rfl rfl (e_move rfl) ?_
    refine stC rfl rfl rfl (impl_box_cell_s _ _ _ _ _ _ (by assumption) (by omega)) ?_
    refine stC rfl rfl rfl (hf _ _ i (by omega) (by omega) (by repeat (first | exact self_old | assumption | refine set_old ?_ (by omega) | refine keep_old (by assumption) ?_ (by omega) (by simp; try omega)))) ?_
    refine stB (fun hb => ?_) (fun hb => ?_)
    ·
      try simp only [decide_eq_true_eq, decide_eq_false_iff_not, Bool.not_eq_true', Bool.not_eq_false', Bool.not_eq_true, Bool.not_eq_false] at hb
      refine stEnd (hK _ [(1, _), (2, _), (5, _), (6, _), (8, _), (9, _), (16, _)] _ _ rfl ?_)
      clear hK K
      refine W.condT rfl ?_
      refine W.rR [1, 2, 5, 8, 9] fun K hK => ?_
      refine st rfl rfl (e_move rfl) ?_
      refine st rfl rfl (e_move rfl) ?_
      refine st rfl rfl (e_shlU (_) (ev_cU (k := 1) (by decide) rfl) rfl rfl) ?_
      refine st rfl rfl (e_orU rfl rfl) ?_
      refine st rfl rfl (e_assign rfl) ?_
      refine stEnd (hK _ [(1, _), (2, _), (5, _), (8, _), (9, _)] _ _ rfl ?_)
      clear hK K
      refine blockN ?_
      refine thenN ?_
      refine W.rR [5, 9, 1, 2, 8] fun K hK => ?_
      refine st rfl rfl (e_add rfl rfl (inB _ (by omega))) ?_
      refine st rfl rfl (e_move rfl) ?_
      refine stEnd (hK _ [(5, _), (9, _), (1, _), (2, _), (8, _)] _ _ rfl ?_)
      clear hK K
      exact roundN (V' := [(5, _), (9, _)]) [5, 9, 1, 2, 8] rfl (by omega) (by repeat (first | exact Keeps.refl _ _ _ | assumption | refine Keeps.trans ?_ (by assumption) (by omega) (by simp; try omega) | refine Keeps.set ?_ (by first | exact Or.inl (by omega) | (simp; done) | (simp; omega)) | refine Keeps.del ?_ (by first | exact Or.inl (by omega) | (simp; done) | (simp; omega)) | refine Keeps.delO2 ?_ (by omega))) _ (by omega) ⟨i + 1, (by first | (rw [those_T hb]; rfl) | (rw [those_F hb]; rfl)), rfl, (by first | omega | assumption | simp_all)⟩
    ·
      try simp only [decide_eq_true_eq, decide_eq_false_iff_not, Bool.not_eq_true', Bool.not_eq_false', Bool.not_eq_true, Bool.not_eq_false] at hb
      refine stEnd (hK _ [(1, _), (2, _), (5, _), (6, _), (8, _), (9, _), (16, _)] _ _ rfl ?_)
      clear hK K
      refine W.condF rfl ?_
      refine W.skip ?_
      refine blockN ?_
      refine thenN ?_
      refine W.rR [5, 9, 1, 2, 8] fun K hK => ?_
      refine st rfl rfl (e_add rfl rfl (inB _ (by omega))) ?_
      refine st rfl rfl (e_move rfl) ?_
      refine stEnd (hK _ [(5, _), (9, _), (1, _), (2, _), (8, _)] _ _ rfl ?_)
      clear hK K
      exact roundN (V' := [(5, _), (9, _)]) [5, 9, 1, 2, 8] rfl (by omega) (by repeat (first | exact Keeps.refl _ _ _ | assumption | refine Keeps.trans ?_ (by assumption) (by omega) (by simp; try omega) | refine Keeps.set ?_ (by first | exact Or.inl (by omega) | (simp; done) | (simp; omega)) | refine Keeps.del ?_ (by first | exact Or.inl (by omega) | (simp; done) | (simp; omega)) | refine Keeps.delO2 ?_ (by omega))) _ (by omega) ⟨i + 1, (by first | (rw [those_T hb]; rfl) | (rw [those_F hb]; rfl)), rfl, (by first | omega | assumption | simp_all)⟩
  ·
    try simp only [decide_eq_true_eq, decide_eq_false_iff_not, Bool.not_eq_true', Bool.not_eq_false', Bool.not_eq_true, Bool.not_eq_false] at hb1
    refine stEnd (hK _ [(1, _), (2, _), (5, _), (8, _), (9, _), (10, _)] _ _ rfl ?_)
    clear hK K
    refine W.seq ?_
    refine W.condF rfl ?_
    refine W.exit ?_
    refine thenE ?_
    refine thenE ?_
    refine blockX ?_
    refine thenN ?_
    refine W.sR [4] fun K hK => ?_
    refine st rfl rfl (e_move rfl) ?_
    refine st rfl rfl (e_assign rfl) ?_
    refine stEnd (hK _ [(4, _)] _ _ rfl ?_)
    clear hK K
    refine W.ret ?_
    refine ⟨.inr rfl, Ends.v0 (by repeat (first | exact self_old | assumption | refine set_old ?_ (by omega) | refine keep_old (by assumption) ?_ (by omega) (by simp; try omega))) hfresh (by first | rfl | (simp [ltT, ltA, ltC, ltV]; try omega)) (res1 (resT rfl) rfl) ?_⟩
    (obtain rfl : i = vol X Y Z := by omega); rfl
theorem impl_box_below_1_s (e c : C) (pb : Nat) (H : Heap) (n : Nat) (hpb : H pb = some (.cells false [.int .i64 c.1, .int .i64 c.2.1, .int .i64 c.2.2])) : Fn Try.prog 162 [.agg #[.int .i64 e.1, .int .i64 e.2.1, .int .i64 e.2.2], .pointer (some ⟨pb, 0, none⟩)] H n (.bool (leC e c)) (H) (n) := by
  refine Fn.intro' Try.func162 rfl (by kernel_rfl) Try.ntmps162 (by simp) (by omega) fun hfresh => ?_
  have lt_hpb := lt_fresh hfresh hpb
  show W _ _ _ ⟨[(0, _), (1, _)], _, _⟩ _
  refine W.sR [1, 2] fun K hK => ?_
  refine st rfl rfl (e_boxA rfl) ?_
  refine st rfl rfl (e_assign rfl) ?_
  refine stEnd (hK _ [(1, _), (2, _)] _ _ rfl ?_)
  clear hK K
  refine W.sR [3] fun K hK => ?_
  refine st rfl rfl (e_idxAK (0) t62 t3 rfl rfl (by first | rfl | omega) (by first | omega | decide)) ?_
  refine st rfl rfl (e_load1 t3 rfl rfl (by repeat (first | exact look_same | assumption | refine look_ne (by omega) ?_)) (by first | rfl | exact tri_getL (by omega))) ?_
  refine st rfl rfl (e_idxAK (0) t62 t3 rfl rfl (by first | rfl | omega) (by first | omega | decide)) ?_
  refine st rfl rfl (e_load1 t3 rfl rfl (by repeat (first | exact look_same | assumption | refine look_ne (by omega) ?_)) (by first | rfl | exact tri_getL (by omega))) ?_
  refine st rfl rfl (e_leq rfl rfl) ?_
  refine st rfl rfl (e_move rfl) ?_
  refine stB (fun hb1 => ?_) (fun hb1 => ?_)
  ·
    try simp only [decide_eq_true_eq, decide_eq_false_iff_not, Bool.not_eq_true', Bool.not_eq_false', Bool.not_eq_true, Bool.not_eq_false] at hb1
    refine st rfl rfl (e_idxAK (1) t62 t3 rfl rfl (by first | rfl | omega) (by first | omega | decide)) ?_
    refine st rfl rfl (e_load1 t3 rfl rfl (by repeat (first | exact look_same | assumption | refine look_ne (by omega) ?_)) (by first | rfl | exact tri_getL (by omega))) ?_
    refine st rfl rfl (e_idxAK (1) t62 t3 rfl rfl (by first | rfl | omega) (by first | omega | decide)) ?_
    refine st rfl rfl (e_load1 t3 rfl rfl (by repeat (first | exact look_same | assumption | refine look_ne (by omega) ?_)) (by first | rfl | exact tri_getL (by omega))) ?_
    refine st rfl rfl (e_leq rfl rfl) ?_
    refine st rfl rfl (e_pickT rfl rfl) ?_
    refine st rfl rfl (e_move rfl) ?_
    refine stB (fun hb2 => ?_) (fun hb2 => ?_)
    ·
      try simp only [decide_eq_true_eq, decide_eq_false_iff_not, Bool.not_eq_true', Bool.not_eq_false', Bool.not_eq_true, Bool.not_eq_false] at hb2
      refine st rfl rfl (e_idxAK (2) t62 t3 rfl rfl (by first | rfl | omega) (by first | omega | decide)) ?_
      refine st rfl rfl (e_load1 t3 rfl rfl (by repeat (first | exact look_same | assumption | refine look_ne (by omega) ?_)) (by first | rfl | exact tri_getL (by omega))) ?_
      refine st rfl rfl (e_idxAK (2) t62 t3 rfl rfl (by first | rfl | omega) (by first | omega | decide)) ?_
      refine st rfl rfl (e_load1 t3 rfl rfl (by repeat (first | exact look_same | assumption | refine look_ne (by omega) ?_)) (by first | rfl | exact tri_getL (by omega))) ?_
      refine st rfl rfl (e_leq rfl rfl) ?_
      refine st rfl rfl (e_pickT rfl rfl) ?_
      refine st rfl rfl (e_assign rfl) ?_
      refine stEnd (hK _ [(3, _)] _ _ rfl ?_)
      clear hK K
      refine W.ret ?_
      refine ⟨.inr rfl, Ends.v0 (by repeat (first | exact self_old | assumption | refine set_old ?_ (by omega))) hfresh (by first | rfl | (simp [ltT, ltA, ltC, ltV]; try omega)) (res1 (resT rfl) rfl) ?_⟩
      simp [leC, *] <;> omega
    ·
      try simp only [decide_eq_true_eq, decide_eq_false_iff_not, Bool.not_eq_true', Bool.not_eq_false', Bool.not_eq_true, Bool.not_eq_false] at hb2
      refine stS rfl rfl ?_
      refine stS rfl rfl ?_
      refine stS rfl rfl ?_
      refine stS rfl rfl ?_
      refine stS rfl rfl ?_
      refine st rfl rfl (e_pickF rfl rfl) ?_
      refine st rfl rfl (e_assign rfl) ?_
      refine stEnd (hK _ [(3, _)] _ _ rfl ?_)
      clear hK K
      refine W.ret ?_
      refine ⟨.inr rfl, Ends.v0 (by repeat (first | exact self_old | assumption | refine set_old ?_ (by omega))) hfresh (by first | rfl | (simp [ltT, ltA, ltC, ltV]; try omega)) (res1 (resT rfl) rfl) ?_⟩
      simp [leC, *] <;> omega
  ·
    try simp only [decide_eq_true_eq, decide_eq_false_iff_not, Bool.not_eq_true', Bool.not_eq_false', Bool.not_eq_true, Bool.not_eq_false] at hb1
    refine stS rfl rfl ?_
    refine stS rfl rfl ?_
    refine stS rfl rfl ?_
    refine stS rfl rfl ?_
    refine stS rfl rfl ?_
    refine st rfl rfl (e_pickF rfl rfl) ?_
    refine st rfl rfl (e_move rfl) ?_
    refine stS rfl rfl ?_
    refine stS rfl rfl ?_
    refine stS rfl rfl ?_
    refine stS rfl rfl ?_
    refine stS rfl rfl ?_
    refine st rfl rfl (e_pickF rfl rfl) ?_
    refine st rfl rfl (e_assign rfl) ?_
    refine stEnd (hK _ [(3, _)] _ _ rfl ?_)
    clear hK K
    refine W.ret ?_
    refine ⟨.inr rfl, Ends.v0 (by repeat (first | exact self_old | assumption | refine set_old ?_ (by omega))) hfresh (by first | rfl | (simp [ltT, ltA, ltC, ltV]; try omega)) (res1 (resT rfl) rfl) ?_⟩
    simp [leC, *] <;> omega
theorem impl_box_below_s (X Y Z : Int) (c : C) (H : Heap) (n : Nat) (hX : (1 ≤ X ∧ X ≤ 4) ∧ (1 ≤ Y ∧ Y ≤ 4) ∧ (1 ≤ Z ∧ Z ≤ 4)) : Fn Try.prog 157 [.agg #[.int .i64 X, .int .i64 Y, .int .i64 Z], .agg #[.int .i64 c.1, .int .i64 c.2.1, .int .i64 c.2.2]] H n (U (thoseTo Y Z (fun e => leC e c) (vol X Y Z))) (H) (n) := by
  refine Fn.intro' Try.func157 rfl (by kernel_rfl) Try.ntmps157 (by simp) (by omega) fun hfresh => ?_
  show W _ _ _ ⟨[(0, _), (1, _)], _, _⟩ _
  refine W.sR [2, 3] fun K hK => ?_
  refine st rfl rfl (e_boxA rfl) ?_
  refine st rfl rfl (e_boxA rfl) ?_
  refine st rfl rfl (e_assign rfl) ?_
  refine stEnd (hK _ [(2, _), (3, _)] _ _ rfl ?_)
  clear hK K
  refine W.sR [4] fun K hK => ?_
  refine st rfl rfl (e_loadA t63 rfl rfl (by repeat (first | exact look_same | assumption | refine look_ne (by omega) ?_)) rfl rfl) ?_
  refine st rfl rfl (e_makeFunc rfl rfl) ?_
  refine stC rfl rfl rfl (impl_box_those_s _ _ _ _ _ (fun e => leC e c) _ _ (by assumption) (fun G m i hi hm hG => impl_box_below_1_s (cellAt Y Z i) c _ G m (hG _ _ (by omega) (by repeat (first | exact look_same | assumption | refine look_ne (by omega) ?_ | refine look_keep (by assumption) (by omega) (by simp; try omega) ?_))))) ?_
  refine st rfl rfl (e_assign rfl) ?_
  refine stEnd (hK _ [(4, _)] _ _ rfl ?_)
  clear hK K
  refine W.ret ?_
  refine ⟨.inr rfl, Ends.v0 (by repeat (first | exact self_old | assumption | refine set_old ?_ (by omega))) hfresh (by first | rfl | (simp [ltT, ltA, ltC, ltV]; try omega)) (res1 (resT rfl) rfl) ?_⟩
  rfl
theorem impl_box_isStair_s (X Y Z : Int) (s : BitVec 64) (H : Heap) (n : Nat) (hX : (1 ≤ X ∧ X ≤ 4) ∧ (1 ≤ Y ∧ Y ≤ 4) ∧ (1 ≤ Z ∧ Z ≤ 4)) : Fn Try.prog 145 [.agg #[.int .i64 X, .int .i64 Y, .int .i64 Z], U s] H n (.bool (stairS X Y Z s)) (H) (n) := by
  refine Fn.intro' Try.func145 rfl (by kernel_rfl) Try.ntmps145 (by simp) (by omega) fun hfresh => ?_
  have hvl := vol_le hX
  have hcl := cellsOf_len (X := X) (Y := Y) (Z := Z) s
  show W _ _ _ ⟨[(0, _), (1, _)], _, _⟩ _
  refine W.sR [1, 2] fun K hK => ?_
  refine st rfl rfl (e_boxA rfl) ?_
  refine st rfl rfl (e_assign rfl) ?_
  refine stEnd (hK _ [(1, _), (2, _)] _ _ rfl ?_)
  clear hK K
  refine W.seq ?_
  refine W.sR [1, 2, 9, 10, 11] fun K hK => ?_
  refine st rfl rfl (e_loadA t63 rfl rfl (by repeat (first | exact look_same | assumption | refine look_ne (by omega) ?_ | refine look_keep (by assumption) (by omega) (by simp; try omega) ?_)) rfl rfl) ?_
  refine st rfl rfl (e_move rfl) ?_
  refine stC rfl rfl rfl (impl_box_list_s _ _ _ _ _ _ (by assumption)) ?_
  refine st rfl rfl (e_len t22 rfl) ?_
  refine st rfl rfl (e_move rfl) ?_
  refine stEnd (hK _ [(1, _), (2, _), (9, _), (10, _), (11, _)] _ _ rfl ?_)
  clear hK K
  refine W.block ?_
  refine W.ord [11, 1, 2, 9, 10] (ts' := [(11, _)] ++ [(1, _), (2, _), (9, _), (10, _)]) rfl ?_
  refine W.loopC [(11, _)] [] (fun κ V G μ => ∃ i : Nat, V = [(11, .int .i64 (i : Nat))] ∧ κ = (cellsOf X Y Z s).length - i ∧ (i ≤ (cellsOf X Y Z s).length) ∧ (∀ j, j < i → thoseTo Y Z (fun e => leC e (at3 (cellsOf X Y Z s) j)) (vol X Y Z) &&& ~~~ s = 0#64)) _ ⟨0, rfl, rfl, (by first | omega | assumption | rfl | simp_all), (fun j hj => absurd hj (by omega))⟩ fun κ V G μ hinv hμ hkeep hfr => ?_
  obtain ⟨i, rfl, rfl, hi, hq⟩ := hinv
  refine W.sR [1, 2, 9, 10, 11, 12] fun K hK => ?_
  refine st rfl rfl (e_lss rfl rfl) ?_
  refine stB (fun hb1 => ?_) (fun hb1 => ?_)
  ·
    try simp only [decide_eq_true_eq, decide_eq_false_iff_not, Bool.not_eq_true', Bool.not_eq_false', Bool.not_eq_true, Bool.not_eq_false] at hb1
    refine stEnd (hK _ [(1, _), (2, _), (9, _), (10, _), (11, _), (12, _)] _ _ rfl ?_)
    clear hK K
    refine W.seq ?_
    refine W.condT rfl ?_
    refine W.skip ?_
    refine thenN ?_
    refine W.seq ?_
    refine W.block ?_
    refine W.sR [1, 2, 6, 9, 10, 11] fun K hK => ?_
    refine st rfl rfl (e_idxSK _ t22 t62 rfl rfl rfl (by first | omega | decide)) ?_
    refine st rfl rfl (e_loadP t62 rfl rfl (by repeat (first | exact look_same | assumption | refine look_ne (by omega) ?_ | refine look_keep (by assumption) (by omega) (by simp; try omega) ?_)) (flat_at (by omega))) ?_
    refine st rfl rfl (e_alloc t62 rfl) ?_
    refine stN rfl (e_storeA t62 rfl rfl (by repeat (first | exact look_same | assumption | refine look_ne (by omega) ?_ | refine look_keep (by assumption) (by omega) (by simp; try omega) ?_)) rfl rfl rfl (by decide)) ?_
    refine stEnd (hK _ [(1, _), (2, _), (6, _), (9, _), (10, _), (11, _)] _ _ rfl ?_)
    clear hK K
    refine W.sR [1, 2, 9, 10, 11, 20] fun K hK => ?_
    refine st rfl rfl (e_loadA t63 rfl rfl (by repeat (first | exact look_same | assumption | refine look_ne (by omega) ?_ | refine look_keep (by assumption) (by omega) (by simp; try omega) ?_)) rfl rfl) ?_
    refine st rfl rfl (e_loadA t62 rfl rfl (by repeat (first | exact look_same | assumption | refine look_ne (by omega) ?_ | refine look_keep (by assumption) (by omega) (by simp; try omega) ?_)) rfl rfl) ?_
    refine stC rfl rfl rfl (impl_box_below_s _ _ _ _ _ _ (by assumption)) ?_
    refine st rfl rfl (e_move rfl) ?_
    refine st rfl rfl (e_andNotU rfl rfl) ?_
    refine st rfl rfl (e_neqU rfl (ev_cU (k := 0) (by decide) rfl)) ?_
    refine stB (fun hz => ?_) (fun hz => ?_)
    ·
      try simp only [decide_eq_true_eq, decide_eq_false_iff_not, Bool.not_eq_true', Bool.not_eq_false', Bool.not_eq_true, Bool.not_eq_false] at hz
      refine stEnd (hK _ [(1, _), (2, _), (9, _), (10, _), (11, _), (20, _)] _ _ rfl ?_)
      clear hK K
      refine W.condT rfl ?_
      refine W.sR [4] fun K hK => ?_
      refine st rfl rfl (e_assign rfl) ?_
      refine stEnd (hK _ [(4, _)] _ _ rfl ?_)
      clear hK K
      refine W.ret ?_
      refine blockR ?_
      refine thenR ?_
      refine thenR ?_
      refine blockR ?_
      refine thenR ?_
      refine ⟨.inr rfl, Ends.v0 (by repeat (first | exact self_old | assumption | refine set_old ?_ (by omega) | refine keep_old (by assumption) ?_ (by omega) (by simp; try omega))) hfresh (by first | rfl | (simp [ltT, ltA, ltC, ltV]; try omega)) (res1 (resT rfl) rfl) ?_⟩
      first | rw [stairS_no (i := i) (by omega) hz] | rw [stairS_yes (fun j hj => hq j (by omega))]
    ·
      try simp only [decide_eq_true_eq, decide_eq_false_iff_not, Bool.not_eq_true', Bool.not_eq_false', Bool.not_eq_true, Bool.not_eq_false] at hz
      refine stEnd (hK _ [(1, _), (2, _), (9, _), (10, _), (11, _), (20, _)] _ _ rfl ?_)
      clear hK K
      refine W.condF rfl ?_
      refine W.skip ?_
      refine blockN ?_
      refine thenN ?_
      refine W.rR [11, 1, 2, 9, 10] fun K hK => ?_
      refine st rfl rfl (e_add rfl rfl (inB _ (by omega))) ?_
      refine st rfl rfl (e_move rfl) ?_
      refine stEnd (hK _ [(11, _), (1, _), (2, _), (9, _), (10, _)] _ _ rfl ?_)
      clear hK K
      exact roundN (V' := [(11, _)]) [11, 1, 2, 9, 10] rfl (by omega) (by repeat (first | exact Keeps.refl _ _ _ | assumption | refine Keeps.trans ?_ (by assumption) (by omega) (by simp; try omega) | refine Keeps.set ?_ (by first | exact Or.inl (by omega) | (simp; done) | (simp; omega)) | refine Keeps.del ?_ (by first | exact Or.inl (by omega) | (simp; done) | (simp; omega)) | refine Keeps.delO2 ?_ (by omega))) _ (by omega) ⟨i + 1, rfl, rfl, (by first | omega | assumption | simp_all), (all_succ hq hz)⟩
  ·
    try simp only [decide_eq_true_eq, decide_eq_false_iff_not, Bool.not_eq_true', Bool.not_eq_false', Bool.not_eq_true, Bool.not_eq_false] at hb1
    refine stEnd (hK _ [(1, _), (2, _), (9, _), (10, _), (11, _), (12, _)] _ _ rfl ?_)
    clear hK K
    refine W.seq ?_
    refine W.condF rfl ?_
    refine W.exit ?_
    refine thenE ?_
    refine thenE ?_
    refine blockX ?_
    refine thenN ?_
    refine W.sR [4] fun K hK => ?_
    refine st rfl rfl (e_assign rfl) ?_
    refine stEnd (hK _ [(4, _)] _ _ rfl ?_)
    clear hK K
    refine W.ret ?_
    refine ⟨.inr rfl, Ends.v0 (by repeat (first | exact self_old | assumption | refine set_old ?_ (by omega) | refine keep_old (by assumption) ?_ (by omega) (by simp; try omega))) hfresh (by first | rfl | (simp [ltT, ltA, ltC, ltV]; try omega)) (res1 (resT rfl) rfl) ?_⟩
    first | rw [stairS_no (i := i) (by omega) hz] | rw [stairS_yes (fun j hj => hq j (by omega))]
theorem impl_isStair_s (X Y Z : Int) (b : Nat) (ro : Bool) (cs : List C) (H : Heap) (n : Nat) (hb : H b = some (.cells ro (flat cs))) (hlen : cs.length ≤ 1048576) : Fn Try.prog 93 [.agg #[.int .i64 X, .int .i64 Y, .int .i64 Z, .slice (some ⟨b, 0, none⟩) cs.length 3]] H n (.bool (isHeap X Y Z cs && stairC cs)) (H) (n) := by
  refine Fn.intro' Try.func93 rfl (by kernel_rfl) Try.ntmps93 (by simp) (by omega) fun hfresh => ?_
  have lt_hb := lt_fresh hfresh hb
  show W _ _ _ ⟨[(0, _)], _, _⟩ _
  refine W.sR [1] fun K hK => ?_
  refine st rfl rfl (e_boxA rfl) ?_
  refine st rfl rfl (e_assign rfl) ?_
  refine stEnd (hK _ [(1, _)] _ _ rfl ?_)
  clear hK K
  refine W.sD [2] [0, 1, 3, 7, 15, 7, 63, 127, 255, 511] (by kernel_rfl) (by kernel_rfl) fun K hK => ?_
  refine dL rfl rfl rfl (by omega) (accB_ok rfl) (e_loadA t28 rfl rfl (by repeat (first | exact look_same | assumption | refine look_ne (by omega) ?_)) rfl rfl) ?_
  refine dC rfl rfl rfl rfl (impl_IsHeap_s _ _ _ _ _ _ _ _ (by repeat (first | exact look_same | assumption | refine look_ne (by omega) ?_ | refine look_hide (by omega) (by first | exact List.not_mem_nil | (simp [hidden, Nat.testBit]; done) | (simp [hidden, Nat.testBit]; omega)) ?_)) (by omega)) (accB_ok rfl) ?_
  refine dP rfl rfl rfl (e_move rfl) ?_
  refine dB (fun hh => ?_) (fun hh => ?_)
  ·
    try simp only [decide_eq_true_eq, decide_eq_false_iff_not, Bool.not_eq_true', Bool.not_eq_false', Bool.not_eq_true, Bool.not_eq_false] at hh
    have hv := valid_of hh
    have hX := hv.box
    refine dL rfl rfl rfl (by omega) (accB_ok rfl) (e_loadA t28 rfl rfl (by repeat (first | exact look_same | assumption | refine look_ne (by omega) ?_)) rfl rfl) ?_
    refine dC rfl rfl rfl rfl (impl_Heap_box_s _ _ _ _ _ _ ) (accB_ok rfl) ?_
    refine dL rfl rfl rfl (by omega) (by repeat (first | exact trivial | refine And.intro (Or.inl rfl) ?_ | refine And.intro (Or.inr trivial) ?_ | refine And.intro (Or.inr (And.intro (Or.inl (by omega)) (by first | (simp; done) | (simp; omega)))) ?_ | refine And.intro (Or.inr (And.intro (Or.inr (by omega)) (by first | (simp; done) | (simp; omega)))) ?_ | refine And.intro (Or.inr (by simp [compat]; try omega)) ?_)) (e_loadA t28 rfl rfl (by repeat (first | exact look_same | assumption | refine look_ne (by omega) ?_)) rfl rfl) ?_
    refine dC rfl rfl rfl rfl (impl_Heap_cubes_s _ _ _ _ _ _ _ _ (by repeat (first | exact look_same | assumption | refine look_ne (by omega) ?_ | refine look_hide (by omega) (by first | exact List.not_mem_nil | (simp [hidden, Nat.testBit]; done) | (simp [hidden, Nat.testBit]; omega)) ?_)) (by omega) (by assumption)) (accB_ok rfl) ?_
    refine dC rfl rfl rfl rfl (impl_box_isStair_s _ _ _ _ _ _ (by assumption)) (accB_ok rfl) ?_
    rw [stair_eq (rep_mask hv)]
    refine dP rfl rfl rfl (e_pickT rfl rfl) ?_
    refine dP rfl rfl rfl (e_assign rfl) ?_
    refine dEnd (hK _ [(2, _)] _ _ rfl ?_)
    clear hK K
    refine W.ret ?_
    refine ⟨.inr rfl, Ends.v0 (by repeat (first | exact self_old | assumption | refine set_old ?_ (by omega))) hfresh (by first | rfl | (simp [ltT, ltA, ltC, ltV]; try omega)) (res1 (resT rfl) rfl) ?_⟩
    simp [hh]
  ·
    try simp only [decide_eq_true_eq, decide_eq_false_iff_not, Bool.not_eq_true', Bool.not_eq_false', Bool.not_eq_true, Bool.not_eq_false] at hh
    refine dS rfl rfl ?_
    refine dS rfl rfl ?_
    refine dS rfl rfl ?_
    refine dS rfl rfl ?_
    refine dS rfl rfl ?_
    refine dP rfl rfl rfl (e_pickF rfl rfl) ?_
    refine dP rfl rfl rfl (e_assign rfl) ?_
    refine dEnd (hK _ [(2, _)] _ _ rfl ?_)
    clear hK K
    refine W.ret ?_
    refine ⟨.inr rfl, Ends.v0 (by repeat (first | exact self_old | assumption | refine set_old ?_ (by omega))) hfresh (by first | rfl | (simp [ltT, ltA, ltC, ltV]; try omega)) (res1 (resT rfl) rfl) ?_⟩
    simp [hh]
theorem impl_StairOrders_1_hit (X Y Z : Int) (sv : Value) (L : List C) (ks : List (List C)) (pm rm ph pf : Nat) (H : Heap) (n : Nat) (hpm : H pm = some (.cells false [.map (some rm)])) (hrm : H rm = some (.map (encM Y Z ordN without ks))) (hph : H ph = some (.cells false [.int .i64 X, .int .i64 Y, .int .i64 Z, sv])) (hpf : H pf = some (.cells false [.func (.func 94) #[] (List.toArray [.pointer (some ⟨pm, 0, none⟩), .pointer (some ⟨ph, 0, none⟩), .pointer (some ⟨pf, 0, none⟩)])])) (hv : Valid X Y Z L) (hM : MemOk X Y Z ks) (hin : L ∈ ks) : Fn Try.prog 94 [U (mask Y Z L), .pointer (some ⟨pm, 0, none⟩), .pointer (some ⟨ph, 0, none⟩), .pointer (some ⟨pf, 0, none⟩)] H n (.int .i64 (recL ordN without L)) (H) (n) := by
  refine Fn.intro' Try.func94 rfl (by kernel_rfl) Try.ntmps94 (by simp) (by omega) fun hfresh => ?_
  have lt_hpm := lt_fresh hfresh hpm
  have lt_hrm := lt_fresh hfresh hrm
  have lt_hph := lt_fresh hfresh hph
  have lt_hpf := lt_fresh hfresh hpf
  have e1 : pm ≠ rm := fun e => by rw [e, hrm] at hpm; simp at hpm
  have e2 : ph ≠ rm := fun e => by rw [e, hrm] at hph; simp at hph
  have e3 : pf ≠ rm := fun e => by rw [e, hrm] at hpf; simp at hpf
  have hX := hv.box
  show W _ _ _ ⟨[(0, _), (1, _), (2, _), (3, _)], _, _⟩ _
  refine W.sR [0, 1, 2, 3] fun K hK => ?_
  refine st rfl rfl (e_assign rfl) ?_
  refine stEnd (hK _ [(0, _), (1, _), (2, _), (3, _)] _ _ rfl ?_)
  clear hK K
  refine W.seq ?_
  refine W.sR [0, 1, 2, 3, 6, 7] fun K hK => ?_
  refine st rfl rfl (e_load1 t102 rfl rfl (by repeat (first | exact look_same | assumption | refine look_ne (by omega) ?_)) rfl) ?_
  refine st rfl rfl (e_move rfl) ?_
  refine st rfl rfl (e_lookup2 t102 t73 tz3 rfl rfl rfl (by repeat (first | exact look_same | assumption | refine look_ne (by omega) ?_)) (get_hit hv hM hin)) ?_
  refine st rfl rfl (e_move rfl) ?_
  refine st rfl rfl (e_extract rfl rfl) ?_
  refine st rfl rfl (e_extract rfl rfl) ?_
  refine st rfl rfl (e_assign rfl) ?_
  refine st rfl rfl (e_assign rfl) ?_
  refine stEnd (hK _ [(0, _), (1, _), (2, _), (3, _), (6, _), (7, _)] _ _ rfl ?_)
  clear hK K
  refine W.sR [0, 1, 2, 3, 6, 16] fun K hK => ?_
  refine st rfl rfl (e_move rfl) ?_
  refine stEnd (hK _ [(0, _), (1, _), (2, _), (3, _), (6, _), (16, _)] _ _ rfl ?_)
  clear hK K
  refine W.condT rfl ?_
  refine W.sR [5] fun K hK => ?_
  refine st rfl rfl (e_move rfl) ?_
  refine st rfl rfl (e_assign rfl) ?_
  refine stEnd (hK _ [(5, _)] _ _ rfl ?_)
  clear hK K
  refine W.ret ?_
  refine thenR ?_
  refine ⟨.inr rfl, Ends.v0 (by repeat (first | exact self_old | assumption | refine set_old ?_ (by omega))) hfresh (by first | rfl | (simp [ltT, ltA, ltC, ltV]; try omega)) (res1 (resT rfl) rfl) ?_⟩
  rfl
theorem impl_box_stairCorners_1_s (X Y Z : Int) (c : C) (s : BitVec 64) (L : List C) (pa pb : Nat) (H : Heap) (n : Nat) (hpa : H pa = some (.cells false [.int .i64 X, .int .i64 Y, .int .i64 Z])) (hpb : H pb = some (.cells false [U s])) (hrep : Rep X Y Z s L) (hc : (0 ≤ c.1 ∧ c.1 < X) ∧ (0 ≤ c.2.1 ∧ c.2.1 < Y) ∧ (0 ≤ c.2.2 ∧ c.2.2 < Z)) : Fn Try.prog 146 [.agg #[.int .i64 c.1, .int .i64 c.2.1, .int .i64 c.2.2], .pointer (some ⟨pa, 0, none⟩), .pointer (some ⟨pb, 0, none⟩)] H n (.bool (cornF L c)) (H) (n) := by
  refine Fn.intro' Try.func146 rfl (by kernel_rfl) Try.ntmps146 (by simp) (by omega) fun hfresh => ?_
  have lt_hpa := lt_fresh hfresh hpa
  have lt_hpb := lt_fresh hfresh hpb
  have hX := hrep.valid.box
  have h64 := cellIx_lt64 hX hc
  show W _ _ _ ⟨[(0, _), (1, _), (2, _)], _, _⟩ _
  refine W.sR [1, 2, 3] fun K hK => ?_
  refine st rfl rfl (e_boxA rfl) ?_
  refine st rfl rfl (e_assign rfl) ?_
  refine stEnd (hK _ [(1, _), (2, _), (3, _)] _ _ rfl ?_)
  clear hK K
  refine W.sR [1, 2, 5] fun K hK => ?_
  refine st rfl rfl (e_loadA t63 rfl rfl (by repeat (first | exact look_same | assumption | refine look_ne (by omega) ?_)) rfl rfl) ?_
  refine st rfl rfl (e_loadA t62 rfl rfl (by repeat (first | exact look_same | assumption | refine look_ne (by omega) ?_)) rfl rfl) ?_
  refine stC rfl rfl rfl (impl_box_index_s _ _ _ _ _ _ (by assumption) (by assumption)) ?_
  refine st rfl rfl (e_shlU (_) (ev_cU (k := 1) (by decide) rfl) rfl rfl) ?_
  refine st rfl rfl (e_assign rfl) ?_
  refine stEnd (hK _ [(1, _), (2, _), (5, _)] _ _ rfl ?_)
  clear hK K
  refine W.sR [4] fun K hK => ?_
  refine st rfl rfl (e_load1 t73 rfl rfl (by repeat (first | exact look_same | assumption | refine look_ne (by omega) ?_)) rfl) ?_
  refine st rfl rfl (e_move rfl) ?_
  refine st rfl rfl (e_andU rfl rfl) ?_
  refine st rfl rfl (e_neqU rfl (ev_cU (k := 0) (by decide) rfl)) ?_
  rw [hrep.and_one hc, Bool.not_not]
  refine st rfl rfl (e_move rfl) ?_
  refine stB (fun hm => ?_) (fun hm => ?_)
  ·
    try simp only [decide_eq_true_eq, decide_eq_false_iff_not, Bool.not_eq_true', Bool.not_eq_false', Bool.not_eq_true, Bool.not_eq_false] at hm
    refine st rfl rfl (e_loadA t63 rfl rfl (by repeat (first | exact look_same | assumption | refine look_ne (by omega) ?_)) rfl rfl) ?_
    refine st rfl rfl (e_load1 t73 rfl rfl (by repeat (first | exact look_same | assumption | refine look_ne (by omega) ?_)) rfl) ?_
    refine st rfl rfl (e_move rfl) ?_
    refine st rfl rfl (e_andNotU rfl rfl) ?_
    refine stC rfl rfl rfl (impl_box_isStair_s _ _ _ _ _ _ (by assumption)) ?_
    rw [stair_eq (hrep.without hc)]
    refine st rfl rfl (e_pickT rfl rfl) ?_
    refine st rfl rfl (e_assign rfl) ?_
    refine stEnd (hK _ [(4, _)] _ _ rfl ?_)
    clear hK K
    refine W.ret ?_
    refine ⟨.inr rfl, Ends.v0 (by repeat (first | exact self_old | assumption | refine set_old ?_ (by omega))) hfresh (by first | rfl | (simp [ltT, ltA, ltC, ltV]; try omega)) (res1 (resT rfl) rfl) ?_⟩
    simp [cornF, hm]
  ·
    try simp only [decide_eq_true_eq, decide_eq_false_iff_not, Bool.not_eq_true', Bool.not_eq_false', Bool.not_eq_true, Bool.not_eq_false] at hm
    refine stS rfl rfl ?_
    refine stS rfl rfl ?_
    refine stS rfl rfl ?_
    refine stS rfl rfl ?_
    refine stS rfl rfl ?_
    refine st rfl rfl (e_pickF rfl rfl) ?_
    refine st rfl rfl (e_assign rfl) ?_
    refine stEnd (hK _ [(4, _)] _ _ rfl ?_)
    clear hK K
    refine W.ret ?_
    refine ⟨.inr rfl, Ends.v0 (by repeat (first | exact self_old | assumption | refine set_old ?_ (by omega))) hfresh (by first | rfl | (simp [ltT, ltA, ltC, ltV]; try omega)) (res1 (resT rfl) rfl) ?_⟩
    simp [cornF, hm]
theorem impl_box_stairCorners_s (X Y Z : Int) (s : BitVec 64) (L : List C) (H : Heap) (n : Nat) (hrep : Rep X Y Z s L) : Fn Try.prog 95 [.agg #[.int .i64 X, .int .i64 Y, .int .i64 Z], U s] H n (U (thoseTo Y Z (cornF L) (vol X Y Z))) (H) (n) := by
  refine Fn.intro' Try.func95 rfl (by kernel_rfl) Try.ntmps95 (by simp) (by omega) fun hfresh => ?_
  have hX := hrep.valid.box
  show W _ _ _ ⟨[(0, _), (1, _)], _, _⟩ _
  refine W.sR [2, 3] fun K hK => ?_
  refine st rfl rfl (e_boxA rfl) ?_
  refine st rfl rfl (e_box1 rfl rfl) ?_
  refine st rfl rfl (e_assign rfl) ?_
  refine stEnd (hK _ [(2, _), (3, _)] _ _ rfl ?_)
  clear hK K
  refine W.sR [4] fun K hK => ?_
  refine st rfl rfl (e_loadA t63 rfl rfl (by repeat (first | exact look_same | assumption | refine look_ne (by omega) ?_)) rfl rfl) ?_
  refine st rfl rfl (e_makeFunc rfl rfl) ?_
  refine stC rfl rfl rfl (impl_box_those_s _ _ _ _ _ (cornF L) _ _ (by assumption) (fun G m i hi hm hG => impl_box_stairCorners_1_s X Y Z (cellAt Y Z i) s L _ _ G m (hG _ _ (by omega) (by repeat (first | exact look_same | assumption | refine look_ne (by omega) ?_ | refine look_keep (by assumption) (by omega) (by simp; try omega) ?_ | refine look_hide (by omega) (by first | exact List.not_mem_nil | (simp [hidden, Nat.testBit]; done) | (simp [hidden, Nat.testBit]; omega)) ?_))) (hG _ _ (by omega) (by repeat (first | exact look_same | assumption | refine look_ne (by omega) ?_ | refine look_keep (by assumption) (by omega) (by simp; try omega) ?_ | refine look_hide (by omega) (by first | exact List.not_mem_nil | (simp [hidden, Nat.testBit]; done) | (simp [hidden, Nat.testBit]; omega)) ?_))) hrep (cellAt_in hX hi))) ?_
  refine st rfl rfl (e_assign rfl) ?_
  refine stEnd (hK _ [(4, _)] _ _ rfl ?_)
  clear hK K
  refine W.ret ?_
  refine ⟨.inr rfl, Ends.v0 (by repeat (first | exact self_old | assumption | refine set_old ?_ (by omega))) hfresh (by first | rfl | (simp [ltT, ltA, ltC, ltV]; try omega)) (res1 (resT rfl) rfl) ?_⟩
  rfl
theorem impl_StairOrders_1_step (X Y Z : Int) (sv : Value) (L : List C) (ks : List (List C)) (pm rm ph pf : Nat) (f : Nat) (H : Heap) (n : Nat) (hpm : H pm = some (.cells false [.map (some rm)])) (hrm : H rm = some (.map (encM Y Z ordN without ks))) (hph : H ph = some (.cells false [.int .i64 X, .int .i64 Y, .int .i64 Z, sv])) (hpf : H pf = some (.cells false [.func (.func 94) #[] (List.toArray [.pointer (some ⟨pm, 0, none⟩), .pointer (some ⟨ph, 0, none⟩), .pointer (some ⟨pf, 0, none⟩)])])) (hv : Valid X Y Z L) (hM : MemOk X Y Z ks) (hout : ¬ L ∈ ks) (hl : L.length ≤ 18) (hrec : ∀ (K : List C) (ks : List (List C)) (G : Heap) (m : Nat), Valid X Y Z K → MemOk X Y Z ks → K.length < L.length → G pm = some (.cells false [.map (some rm)]) → G rm = some (.map (encM Y Z ordN without ks)) → G ph = some (.cells false [.int .i64 X, .int .i64 Y, .int .i64 Z, sv]) → G pf = some (.cells false [.func (.func 94) #[] (List.toArray [.pointer (some ⟨pm, 0, none⟩), .pointer (some ⟨ph, 0, none⟩), .pointer (some ⟨pf, 0, none⟩)])]) → n ≤ m → Fn Try.prog 94 [U (mask Y Z K), .pointer (some ⟨pm, 0, none⟩), .pointer (some ⟨ph, 0, none⟩), .pointer (some ⟨pf, 0, none⟩)] G m (.int .i64 (recL ordN without K)) (G.set rm (.map (encM Y Z ordN without (memK ordN without f K ks)))) m) : Fn Try.prog 94 [U (mask Y Z L), .pointer (some ⟨pm, 0, none⟩), .pointer (some ⟨ph, 0, none⟩), .pointer (some ⟨pf, 0, none⟩)] H n (.int .i64 (recL ordN without L)) (H.set rm (.map (encM Y Z ordN without (memK ordN without (f + 1) L ks)))) (n) := by
  refine Fn.intro' Try.func94 rfl (by kernel_rfl) Try.ntmps94 (by simp) (by omega) fun hfresh => ?_
  have lt_hpm := lt_fresh hfresh hpm
  have lt_hrm := lt_fresh hfresh hrm
  have lt_hph := lt_fresh hfresh hph
  have lt_hpf := lt_fresh hfresh hpf
  have e1 : pm ≠ rm := fun e => by rw [e, hrm] at hpm; simp at hpm
  have e2 : ph ≠ rm := fun e => by rw [e, hrm] at hph; simp at hph
  have e3 : pf ≠ rm := fun e => by rw [e, hrm] at hpf; simp at hpf
  have hX := hv.box
  have hne : ¬ L.length = 0 := fun e => hout (by rw [List.eq_nil_of_length_eq_zero e]; exact hM.nil)
  have hNv : Valid X Y Z (ordN L) := hv.filter _
  have hNs : ∀ c ∈ (ordN L), c ∈ L := fun c hc => (List.mem_filter.mp hc).1
  show W _ _ _ ⟨[(0, _), (1, _), (2, _), (3, _)], _, _⟩ _
  refine W.sR [0, 1, 2, 3] fun K hK => ?_
  refine st rfl rfl (e_assign rfl) ?_
  refine stEnd (hK _ [(0, _), (1, _), (2, _), (3, _)] _ _ rfl ?_)
  clear hK K
  refine W.seq ?_
  refine W.sR [0, 1, 2, 3, 6, 7] fun K hK => ?_
  refine st rfl rfl (e_load1 t102 rfl rfl (by repeat (first | exact look_same | assumption | refine look_ne (by omega) ?_ | refine look_keep (by assumption) (by omega) (by simp; try omega) ?_)) rfl) ?_
  refine st rfl rfl (e_move rfl) ?_
  refine st rfl rfl (e_lookup2 t102 t73 tz3 rfl rfl rfl (by repeat (first | exact look_same | assumption | refine look_ne (by omega) ?_ | refine look_keep (by assumption) (by omega) (by simp; try omega) ?_)) (get_miss hv hM hout)) ?_
  refine st rfl rfl (e_move rfl) ?_
  refine st rfl rfl (e_extract rfl rfl) ?_
  refine st rfl rfl (e_extract rfl rfl) ?_
  refine st rfl rfl (e_assign rfl) ?_
  refine st rfl rfl (e_assign rfl) ?_
  refine stEnd (hK _ [(0, _), (1, _), (2, _), (3, _), (6, _), (7, _)] _ _ rfl ?_)
  clear hK K
  refine W.sR [0, 1, 2, 3, 6, 16] fun K hK => ?_
  refine st rfl rfl (e_move rfl) ?_
  refine stEnd (hK _ [(0, _), (1, _), (2, _), (3, _), (6, _), (16, _)] _ _ rfl ?_)
  clear hK K
  refine W.condF rfl ?_
  refine W.skip ?_
  refine thenN ?_
  refine W.sR [0, 1, 2, 3, 8] fun K hK => ?_
  refine st rfl rfl (e_assign rfl) ?_
  refine stEnd (hK _ [(0, _), (1, _), (2, _), (3, _), (8, _)] _ _ rfl ?_)
  clear hK K
  refine W.seq ?_
  refine W.sR [0, 1, 3, 8, 9] fun K hK => ?_
  refine st rfl rfl (e_loadA t28 rfl rfl (by repeat (first | exact look_same | assumption | refine look_ne (by omega) ?_ | refine look_keep (by assumption) (by omega) (by simp; try omega) ?_)) rfl rfl) ?_
  refine stC rfl rfl rfl (impl_Heap_box_s _ _ _ _ _ _ ) ?_
  refine st rfl rfl (e_move rfl) ?_
  refine stC rfl rfl rfl (impl_box_stairCorners_s _ _ _ _ L _ _ (rep_mask hv)) ?_
  rw [ord_mask hv]
  refine st rfl rfl (e_assign rfl) ?_
  refine stEnd (hK _ [(0, _), (1, _), (3, _), (8, _), (9, _)] _ _ rfl ?_)
  clear hK K
  refine W.block ?_
  refine W.ord [8, 9, 0, 1, 3] (ts' := [(8, _), (9, _)] ++ [(0, _), (1, _), (3, _)]) rfl ?_
  refine W.loopC [(8, _), (9, _)] [rm] (fun κ V G μ => ∃ i : Nat, V = [(8, .int .i64 (sumF (fun j => recL ordN without (without L (at3 (ordN L) j))) i)), (9, U (mask Y Z ((ordN L).drop i)))] ∧ κ = (ordN L).length - i ∧ (i ≤ (ordN L).length) ∧ (MemOk X Y Z (memS (fun j => memK ordN without f (without L (at3 (ordN L) j))) ks i)) ∧ (G rm = some (.map (encM Y Z ordN without (memS (fun j => memK ordN without f (without L (at3 (ordN L) j))) ks i))))) _ ⟨0, (by rw [List.drop_zero]; rfl), rfl, (by first | omega | assumption | rfl | simp_all), hM, (by repeat (first | exact look_same | assumption | refine look_ne (by omega) ?_ | refine look_keep (by assumption) (by omega) (by simp; try omega) ?_))⟩ fun κ V G μ hinv hμ hkeep hfr => ?_
  obtain ⟨i, rfl, rfl, hi, hM2, hG⟩ := hinv
  refine W.seq ?_
  refine W.sR [0, 1, 3, 8, 9, 23] fun K hK => ?_
  refine st rfl rfl (e_move rfl) ?_
  refine st rfl rfl (e_neqU rfl (ev_cU (k := 0) (by decide) rfl)) ?_
  refine stB (fun hz => ?_) (fun hz => ?_)
  ·
    try simp only [decide_eq_true_eq, decide_eq_false_iff_not, Bool.not_eq_true', Bool.not_eq_false', Bool.not_eq_true, Bool.not_eq_false] at hz
    have hi2 := drop_lt hNv hz
    have hb1 := rec_walk ord_ok hl (show i ≤ (ordN L).length by omega)
    have hb2 := rec_term ord_ok hl hi2
    refine stEnd (hK _ [(0, _), (1, _), (3, _), (8, _), (9, _), (23, _)] _ _ rfl ?_)
    clear hK K
    refine W.condT rfl ?_
    refine W.skip ?_
    refine thenN ?_
    refine W.seq ?_
    refine W.block ?_
    refine W.rR [0, 1, 3, 8, 9] fun K hK => ?_
    refine st rfl rfl (e_move rfl) ?_
    refine st rfl rfl (e_load1 t99 rfl rfl (by repeat (first | exact look_same | assumption | refine look_ne (by omega) ?_ | refine look_keep (by assumption) (by omega) (by simp; try omega) ?_)) rfl) ?_
    refine st rfl rfl (e_move rfl) ?_
    refine st rfl rfl (e_move rfl) ?_
    refine st rfl rfl (e_move rfl) ?_
    refine st rfl rfl (e_negU rfl) ?_
    refine st rfl rfl (e_andU rfl rfl) ?_
    refine st rfl rfl (e_andNotU rfl rfl) ?_
    rw [sub_mask hv hNv hNs hi2]
    refine stC rfl rfl rfl (hrec _ _ _ _ (without_valid hv _) hM2 (ord_ok.m L i hi2) (by repeat (first | exact look_same | assumption | refine look_ne (by omega) ?_ | refine look_keep (by assumption) (by omega) (by simp; try omega) ?_)) (by repeat (first | exact look_same | assumption | refine look_ne (by omega) ?_ | refine look_keep (by assumption) (by omega) (by simp; try omega) ?_)) (by repeat (first | exact look_same | assumption | refine look_ne (by omega) ?_ | refine look_keep (by assumption) (by omega) (by simp; try omega) ?_)) (by repeat (first | exact look_same | assumption | refine look_ne (by omega) ?_ | refine look_keep (by assumption) (by omega) (by simp; try omega) ?_)) (by omega)) ?_
    refine st rfl rfl (e_add rfl rfl (inB _ (by omega))) ?_
    refine st rfl rfl (e_assign rfl) ?_
    refine stEnd (hK _ [(0, _), (1, _), (3, _), (8, _), (9, _)] _ _ rfl ?_)
    clear hK K
    refine blockN ?_
    refine thenN ?_
    refine W.rR [8, 9, 0, 1, 3] fun K hK => ?_
    refine st rfl rfl (e_move rfl) ?_
    refine st rfl rfl (e_move rfl) ?_
    refine st rfl rfl (e_subU rfl (ev_cU (k := 1) (by decide) rfl)) ?_
    refine st rfl rfl (e_andU rfl rfl) ?_
    rw [drop_next hNv hi2]
    refine st rfl rfl (e_assign rfl) ?_
    refine stEnd (hK _ [(8, _), (9, _), (0, _), (1, _), (3, _)] _ _ rfl ?_)
    clear hK K
    exact roundN (V' := [(8, _), (9, _)]) [8, 9, 0, 1, 3] rfl (by omega) (by repeat (first | exact Keeps.refl _ _ _ | assumption | refine Keeps.trans ?_ (by assumption) (by omega) (by simp; try omega) | refine Keeps.set ?_ (by first | exact Or.inl (by omega) | (simp; done) | (simp; omega)) | refine Keeps.del ?_ (by first | exact Or.inl (by omega) | (simp; done) | (simp; omega)) | refine Keeps.delO2 ?_ (by omega))) _ (by omega) ⟨i + 1, rfl, rfl, (by first | omega | assumption | simp_all), (memK_ok (fun L e h => without_valid h e) f _ _ (without_valid hv _) hM2), look_same⟩
  ·
    try simp only [decide_eq_true_eq, decide_eq_false_iff_not, Bool.not_eq_true', Bool.not_eq_false', Bool.not_eq_true, Bool.not_eq_false] at hz
    have hi2 := drop_ge hNv hz
    refine stEnd (hK _ [(0, _), (1, _), (3, _), (8, _), (9, _), (23, _)] _ _ rfl ?_)
    clear hK K
    refine W.condF rfl ?_
    refine W.exit ?_
    refine thenE ?_
    refine thenE ?_
    refine blockX ?_
    refine thenN ?_
    obtain rfl : i = (ordN L).length := by omega
    refine W.sR [8] fun K hK => ?_
    refine st rfl rfl (e_load1 t102 rfl rfl (by repeat (first | exact look_same | assumption | refine look_ne (by omega) ?_ | refine look_keep (by assumption) (by omega) (by simp; try omega) ?_)) rfl) ?_
    refine st rfl rfl (e_move rfl) ?_
    refine st rfl rfl (e_move rfl) ?_
    rw [show sumF (fun j => recL ordN without (without L (at3 (ordN L) j))) (ordN L).length = recL ordN without L from (rec_cons ord_ok hne).symm]
    refine stN rfl (e_mapUpdate t102 t73 rfl rfl rfl rfl (by repeat (first | exact look_same | assumption | refine look_ne (by omega) ?_ | refine look_keep (by assumption) (by omega) (by simp; try omega) ?_)) (put_enc hv hM2)) ?_
    refine stEnd (hK _ [(8, _)] _ _ rfl ?_)
    clear hK K
    refine W.sR [5] fun K hK => ?_
    refine st rfl rfl (e_move rfl) ?_
    refine st rfl rfl (e_assign rfl) ?_
    refine stEnd (hK _ [(5, _)] _ _ rfl ?_)
    clear hK K
    refine W.ret ?_
    refine ⟨.inr rfl, Ends.vM (by omega) (by repeat (first | exact OldBut.self | assumption | refine OldBut.set ?_ (by first | exact Or.inl (by omega) | (simp; done) | (simp; omega)) | refine OldBut.keep (by assumption) ?_ (by omega) (by simp; try omega))) hfresh (by repeat (first | exact look_same | assumption | refine look_ne (by omega) ?_ | refine look_keep (by assumption) (by omega) (by simp; try omega) ?_)) (by rw [memK_miss hout]) (encM_plain _) rfl (res1 (resT rfl) rfl) ?_⟩
    rfl
end Go.Sep.Walks
