/- Part of a proof: qfits0 -/
import Derived.Test.YtohmojljepjimaaTT
import Derived.Test.YtohmojljepjimaaTop2
namespace Go.Sep.Walks
open Go Go.Sep Go.Proofs
set_option linter.unusedVariables false
set_option linter.unusedSimpArgs false
theorem laws_szIntA3S_s (p : Option Addr) (m e : Nat) (left : Int) (H : Heap) (n : Nat) (hm : m ≤ 9223372036854775807 ∧ 0 ≤ left ∧ left ≤ 1073741824) : Fn Try.prog 16 [.slice p m e, .int .i64 left] H n (.int .i64 (if left - (m : Int) < 0 then -1 else left - (m : Int))) (H) (n) := by
  refine Fn.intro' Try.func16 rfl (by kernel_rfl) Try.ntmps16 (by simp) (by omega) fun hfresh => ?_
  show W _ _ _ ⟨[(0, _), (1, _)], _, _⟩ _
  refine W.sR [0, 1] fun K hK => ?_
  refine st rfl rfl (e_assign rfl) ?_
  refine stEnd (hK _ [(0, _), (1, _)] _ _ rfl ?_)
  clear hK K
  refine W.sR [1] fun K hK => ?_
  refine st rfl rfl (e_move rfl) ?_
  refine st rfl rfl (e_move rfl) ?_
  refine st rfl rfl (e_len t22 rfl) ?_
  refine st rfl rfl (e_sub rfl rfl (inB _ (by omega))) ?_
  refine st rfl rfl (e_assign rfl) ?_
  refine stEnd (hK _ [(1, _)] _ _ rfl ?_)
  clear hK K
  refine W.seq ?_
  refine W.sR [1, 10] fun K hK => ?_
  refine st rfl rfl (e_move rfl) ?_
  refine st rfl rfl (e_lss rfl rfl) ?_
  refine stB (fun hb1 => ?_) (fun hb1 => ?_)
  ·
    try simp only [decide_eq_true_eq, decide_eq_false_iff_not, Bool.not_eq_true', Bool.not_eq_false', Bool.not_eq_true, Bool.not_eq_false] at hb1
    refine stEnd (hK _ [(1, _), (10, _)] _ _ rfl ?_)
    clear hK K
    refine W.condT rfl ?_
    refine W.sR [4] fun K hK => ?_
    refine st rfl rfl (e_assign rfl) ?_
    refine stEnd (hK _ [(4, _)] _ _ rfl ?_)
    clear hK K
    refine W.ret ?_
    refine thenR ?_
    refine ⟨.inr rfl, Ends.v0 (by repeat (first | exact self_old | assumption | refine set_old ?_ (by omega))) hfresh (by first | rfl | (simp [ltT, ltA, ltC, ltV]; try omega)) (res1 (resT rfl) rfl) ?_⟩
    first | rfl | (congr 1 <;> split <;> omega)
  ·
    try simp only [decide_eq_true_eq, decide_eq_false_iff_not, Bool.not_eq_true', Bool.not_eq_false', Bool.not_eq_true, Bool.not_eq_false] at hb1
    refine stEnd (hK _ [(1, _), (10, _)] _ _ rfl ?_)
    clear hK K
    refine W.condF rfl ?_
    refine W.skip ?_
    refine thenN ?_
    refine W.sR [4] fun K hK => ?_
    refine st rfl rfl (e_move rfl) ?_
    refine st rfl rfl (e_assign rfl) ?_
    refine stEnd (hK _ [(4, _)] _ _ rfl ?_)
    clear hK K
    refine W.ret ?_
    refine ⟨.inr rfl, Ends.v0 (by repeat (first | exact self_old | assumption | refine set_old ?_ (by omega))) hfresh (by first | rfl | (simp [ltT, ltA, ltC, ltV]; try omega)) (res1 (resT rfl) rfl) ?_⟩
    first | rfl | (congr 1 <;> split <;> omega)
theorem laws_szHeap_s (X Y Z : Int) (p : Option Addr) (m e : Nat) (left : Int) (H : Heap) (n : Nat) (hm : m ≤ 9223372036854775807 ∧ 0 ≤ left ∧ left ≤ 1073741824) : Fn Try.prog 15 [.agg #[.int .i64 X, .int .i64 Y, .int .i64 Z, .slice p m e], .int .i64 left] H n (.int .i64 (if left - (m : Int) < 0 then -1 else left - (m : Int))) (H) (n) := by
  refine Fn.intro' Try.func15 rfl (by kernel_rfl) Try.ntmps15 (by simp) (by omega) fun hfresh => ?_
  show W _ _ _ ⟨[(0, _), (1, _)], _, _⟩ _
  refine W.sR [1, 2] fun K hK => ?_
  refine st rfl rfl (e_boxA rfl) ?_
  refine st rfl rfl (e_assign rfl) ?_
  refine stEnd (hK _ [(1, _), (2, _)] _ _ rfl ?_)
  clear hK K
  refine W.sR [1] fun K hK => ?_
  refine st rfl rfl (e_fieldAddr t24 t22 rfl rfl) ?_
  refine st rfl rfl (e_load1 t22 rfl rfl (by repeat (first | exact look_same | assumption | refine look_ne (by omega) ?_)) rfl) ?_
  refine st rfl rfl (e_move rfl) ?_
  refine stC rfl rfl rfl (laws_szIntA3S_s _ _ _ _ _ _ (by omega)) ?_
  refine st rfl rfl (e_assign rfl) ?_
  refine stEnd (hK _ [(1, _)] _ _ rfl ?_)
  clear hK K
  refine W.seq ?_
  refine W.sR [1, 10] fun K hK => ?_
  refine st rfl rfl (e_move rfl) ?_
  refine st rfl rfl (e_lss rfl rfl) ?_
  refine stB (fun hb1 => ?_) (fun hb1 => ?_)
  ·
    try simp only [decide_eq_true_eq, decide_eq_false_iff_not, Bool.not_eq_true', Bool.not_eq_false', Bool.not_eq_true, Bool.not_eq_false] at hb1
    refine stEnd (hK _ [(1, _), (10, _)] _ _ rfl ?_)
    clear hK K
    refine W.condT rfl ?_
    refine W.sR [4] fun K hK => ?_
    refine st rfl rfl (e_assign rfl) ?_
    refine stEnd (hK _ [(4, _)] _ _ rfl ?_)
    clear hK K
    refine W.ret ?_
    refine thenR ?_
    refine ⟨.inr rfl, Ends.v0 (by repeat (first | exact self_old | assumption | refine set_old ?_ (by omega))) hfresh (by first | rfl | (simp [ltT, ltA, ltC, ltV]; try omega)) (res1 (resT rfl) rfl) ?_⟩
    first | rfl | (congr 1 <;> split at * <;> omega)
  ·
    try simp only [decide_eq_true_eq, decide_eq_false_iff_not, Bool.not_eq_true', Bool.not_eq_false', Bool.not_eq_true, Bool.not_eq_false] at hb1
    refine stEnd (hK _ [(1, _), (10, _)] _ _ rfl ?_)
    clear hK K
    refine W.condF rfl ?_
    refine W.skip ?_
    refine thenN ?_
    refine W.sR [4] fun K hK => ?_
    refine st rfl rfl (e_move rfl) ?_
    refine st rfl rfl (e_assign rfl) ?_
    refine stEnd (hK _ [(4, _)] _ _ rfl ?_)
    clear hK K
    refine W.ret ?_
    refine ⟨.inr rfl, Ends.v0 (by repeat (first | exact self_old | assumption | refine set_old ?_ (by omega))) hfresh (by first | rfl | (simp [ltT, ltA, ltC, ltV]; try omega)) (res1 (resT rfl) rfl) ?_⟩
    first | rfl | (congr 1 <;> split at * <;> omega)
theorem laws_toIntA3S_nil_s  (H : Heap) (n : Nat) : Fn Try.prog 19 [.slice none 0 2] H n (.slice (some ⟨n, 0, none⟩) 0 3) (H.set n (.cells false [])) (n + 1) := by
  refine Fn.intro' Try.func19 rfl (by kernel_rfl) Try.ntmps19 (by simp) (by omega) fun hfresh => ?_
  show W _ _ _ ⟨[(0, _)], _, _⟩ _
  refine W.sR [0] fun K hK => ?_
  refine st rfl rfl (e_assign rfl) ?_
  refine stEnd (hK _ [(0, _)] _ _ rfl ?_)
  clear hK K
  refine W.sR [0, 3] fun K hK => ?_
  refine st rfl rfl (e_move rfl) ?_
  refine st rfl rfl (e_len t22 rfl) ?_
  refine st rfl rfl (e_make t22 t25 rfl rfl (by decide) (by omega) (m := 0)) ?_
  refine st rfl rfl (e_assign rfl) ?_
  refine stEnd (hK _ [(0, _), (3, _)] _ _ rfl ?_)
  clear hK K
  refine W.seq ?_
  refine W.sR [0, 3, 4] fun K hK => ?_
  refine st rfl rfl (e_assign rfl) ?_
  refine stEnd (hK _ [(0, _), (3, _), (4, _)] _ _ rfl ?_)
  clear hK K
  refine W.block ?_
  refine W.ord [4, 0, 3] (ts' := [(4, _)] ++ [(0, _), (3, _)]) rfl ?_
  refine W.loopC [(4, _)] [n] (fun κ V G μ => V = [(4, .int .i64 0)] ∧ κ = 0 ∧ (G n = some (.cells false []))) _ ⟨rfl, rfl, look_same⟩ fun κ V G μ hinv hμ hkeep hfr => ?_
  obtain ⟨rfl, rfl, hG⟩ := hinv
  refine W.seq ?_
  refine W.sR [0, 3, 4, 11] fun K hK => ?_
  refine st rfl rfl (e_move rfl) ?_
  refine st rfl rfl (e_move rfl) ?_
  refine st rfl rfl (e_len t22 rfl) ?_
  refine st rfl rfl (e_lss rfl rfl) ?_
  refine stB (fun hz => ?_) (fun hz => ?_)
  ·
    exact absurd hz (by simp)
  ·
    try simp only [decide_eq_true_eq, decide_eq_false_iff_not, Bool.not_eq_true', Bool.not_eq_false', Bool.not_eq_true, Bool.not_eq_false] at hz
    refine stEnd (hK _ [(0, _), (3, _), (4, _), (11, _)] _ _ rfl ?_)
    clear hK K
    refine W.condF rfl ?_
    refine W.exit ?_
    refine thenE ?_
    refine thenE ?_
    refine blockX ?_
    refine thenN ?_
    refine W.sR [2] fun K hK => ?_
    refine st rfl rfl (e_move rfl) ?_
    refine st rfl rfl (e_assign rfl) ?_
    refine stEnd (hK _ [(2, _)] _ _ rfl ?_)
    clear hK K
    refine W.ret ?_
    refine ⟨.inr rfl, Ends.v1 (n) (by omega) (by repeat (first | exact self_old | assumption | refine set_old ?_ (by omega) | refine keep_old (by assumption) ?_ (by omega) (by simp; try omega))) hfresh (by repeat (first | exact look_same | assumption | refine look_ne (by omega) ?_ | refine look_keep (by assumption) (by omega) (by simp; try omega) ?_)) ?_ rfl (by simp [ltT, ltA, ltC, ltV]; try omega) (res1 (resT rfl) rfl) ?_⟩
    · rfl
    · first | rfl | simp [renT, renV, renC, renA, one]
theorem laws_toIntA3_s (c : C) (H : Heap) (n : Nat) : Fn Try.prog 20 [.agg #[.int .i64 c.1, .int .i64 c.2.1, .int .i64 c.2.2]] H n (.agg #[.int .i64 c.1, .int .i64 c.2.1, .int .i64 c.2.2]) (H) (n) := by
  refine Fn.intro' Try.func20 rfl (by kernel_rfl) Try.ntmps20 (by simp) (by omega) fun hfresh => ?_
  show W _ _ _ ⟨[(0, _)], _, _⟩ _
  refine W.sR [1, 2] fun K hK => ?_
  refine st rfl rfl (e_boxA rfl) ?_
  refine st rfl rfl (e_alloc t25 rfl) ?_
  refine stEnd (hK _ [(1, _), (2, _)] _ _ rfl ?_)
  clear hK K
  refine W.sR [1, 2, 3] fun K hK => ?_
  refine st rfl rfl (e_alloc t25 rfl) ?_
  refine stEnd (hK _ [(1, _), (2, _), (3, _)] _ _ rfl ?_)
  clear hK K
  refine W.seq ?_
  refine W.sR [1, 2, 3, 4] fun K hK => ?_
  refine st rfl rfl (e_assign rfl) ?_
  refine stEnd (hK _ [(1, _), (2, _), (3, _), (4, _)] _ _ rfl ?_)
  clear hK K
  refine W.block ?_
  refine W.ord [4, 1, 2, 3] (ts' := [(4, _)] ++ [(1, _), (2, _), (3, _)]) rfl ?_
  refine W.loopC [(4, _)] [n + 1 + 1] (fun κ V G μ => ∃ i : Nat, V = [(4, .int .i64 (i : Nat))] ∧ κ = 3 - i ∧ (i ≤ 3) ∧ (G (n + 1 + 1) = some (.cells false (copyT c i)))) _ ⟨0, rfl, rfl, (by first | omega | assumption | rfl | simp_all), look_same⟩ fun κ V G μ hinv hμ hkeep hfr => ?_
  obtain ⟨i, rfl, rfl, hi, hG⟩ := hinv
  refine W.seq ?_
  refine W.sR [1, 2, 3, 4, 6] fun K hK => ?_
  refine st rfl rfl (e_move rfl) ?_
  refine st rfl rfl (e_lss rfl rfl) ?_
  refine stB (fun hb1 => ?_) (fun hb1 => ?_)
  ·
    try simp only [decide_eq_true_eq, decide_eq_false_iff_not, Bool.not_eq_true', Bool.not_eq_false', Bool.not_eq_true, Bool.not_eq_false] at hb1
    refine stEnd (hK _ [(1, _), (2, _), (3, _), (4, _), (6, _)] _ _ rfl ?_)
    clear hK K
    refine W.condT rfl ?_
    refine W.skip ?_
    refine thenN ?_
    refine W.seq ?_
    refine W.block ?_
    refine W.rR [1, 2, 3, 4] fun K hK => ?_
    refine st rfl rfl (e_move rfl) ?_
    refine st rfl rfl (e_move rfl) ?_
    refine st rfl rfl (e_idxAK _ t25 t3 rfl rfl rfl (by first | omega | decide)) ?_
    refine st rfl rfl (e_load1 t3 rfl rfl (by repeat (first | exact look_same | assumption | refine look_ne (by omega) ?_ | refine look_keep (by assumption) (by omega) (by simp; try omega) ?_)) (by first | rfl | exact tri_getL (by omega))) ?_
    refine st rfl rfl (e_idxAK _ t25 t3 rfl rfl rfl (by first | omega | decide)) ?_
    refine stN rfl (e_store1 t3 rfl rfl rfl (by repeat (first | exact look_same | assumption | refine look_ne (by omega) ?_ | refine look_keep (by assumption) (by omega) (by simp; try omega) ?_)) (by rw [copyT_length (by omega)]; omega)) ?_
    refine stEnd (hK _ [(1, _), (2, _), (3, _), (4, _)] _ _ rfl ?_)
    clear hK K
    refine blockN ?_
    refine thenN ?_
    refine W.rR [4, 1, 2, 3] fun K hK => ?_
    refine st rfl rfl (e_move rfl) ?_
    refine st rfl rfl (e_add rfl rfl (inB _ (by omega))) ?_
    refine st rfl rfl (e_assign rfl) ?_
    refine stEnd (hK _ [(4, _), (1, _), (2, _), (3, _)] _ _ rfl ?_)
    clear hK K
    exact roundN (V' := [(4, _)]) [4, 1, 2, 3] rfl (by omega) (by repeat (first | exact Keeps.refl _ _ _ | assumption | refine Keeps.trans ?_ (by assumption) (by omega) (by simp; try omega) | refine Keeps.set ?_ (by first | exact Or.inl (by omega) | (simp; done) | (simp; omega)) | refine Keeps.del ?_ (by first | exact Or.inl (by omega) | (simp; done) | (simp; omega)))) _ (by omega) ⟨i + 1, rfl, rfl, (by first | omega | assumption | simp_all), (look_same.trans (congrArg some (congrArg (Blk.cells false) (copyT_set (by omega)))))⟩
  ·
    try simp only [decide_eq_true_eq, decide_eq_false_iff_not, Bool.not_eq_true', Bool.not_eq_false', Bool.not_eq_true, Bool.not_eq_false] at hb1
    refine stEnd (hK _ [(1, _), (2, _), (3, _), (4, _), (6, _)] _ _ rfl ?_)
    clear hK K
    refine W.condF rfl ?_
    refine W.exit ?_
    refine thenE ?_
    refine thenE ?_
    refine blockX ?_
    refine thenN ?_
    obtain rfl : i = 3 := by omega
    refine W.sR [2] fun K hK => ?_
    refine st rfl rfl (e_loadA t25 rfl rfl (by repeat (first | exact look_same | assumption | refine look_ne (by omega) ?_ | refine look_keep (by assumption) (by omega) (by simp; try omega) ?_)) rfl rfl) ?_
    refine stN rfl (e_storeA t25 rfl rfl (by repeat (first | exact look_same | assumption | refine look_ne (by omega) ?_ | refine look_keep (by assumption) (by omega) (by simp; try omega) ?_)) rfl rfl rfl (by decide)) ?_
    refine stEnd (hK _ [(2, _)] _ _ rfl ?_)
    clear hK K
    refine W.ret ?_
    refine ⟨.inr rfl, Ends.v0 (by repeat (first | exact self_old | assumption | refine set_old ?_ (by omega) | refine keep_old (by assumption) ?_ (by omega) (by simp; try omega))) hfresh (by first | rfl | (simp [ltT, ltA, ltC, ltV]; try omega)) (res1 (resC t25 rfl rfl (by repeat (first | exact look_same | assumption | refine look_ne (by omega) ?_ | refine look_keep (by assumption) (by omega) (by simp; try omega) ?_)) rfl rfl) rfl) ?_⟩
    rfl
theorem laws_toIntA3S_s (b : Nat) (ro : Bool) (cs : List C) (H : Heap) (n : Nat) (hb : H b = some (.cells ro (flat cs))) (hlen : cs.length ≤ 1048576) : Fn Try.prog 19 [.slice (some ⟨b, 0, none⟩) cs.length 3] H n (.slice (some ⟨n, 0, none⟩) cs.length 3) (H.set n (.cells false (flat cs))) (n + 1) := by
  refine Fn.intro' Try.func19 rfl (by kernel_rfl) Try.ntmps19 (by simp) (by omega) fun hfresh => ?_
  have lt_hb := lt_fresh hfresh hb
  show W _ _ _ ⟨[(0, _)], _, _⟩ _
  refine W.sR [0] fun K hK => ?_
  refine st rfl rfl (e_assign rfl) ?_
  refine stEnd (hK _ [(0, _)] _ _ rfl ?_)
  clear hK K
  refine W.sR [0, 3] fun K hK => ?_
  refine st rfl rfl (e_move rfl) ?_
  refine st rfl rfl (e_len t22 rfl) ?_
  refine st rfl rfl (e_make t22 t25 rfl rfl (by decide) (by omega)) ?_
  refine st rfl rfl (e_assign rfl) ?_
  refine stEnd (hK _ [(0, _), (3, _)] _ _ rfl ?_)
  clear hK K
  refine W.seq ?_
  refine W.sR [0, 3, 4] fun K hK => ?_
  refine st rfl rfl (e_assign rfl) ?_
  refine stEnd (hK _ [(0, _), (3, _), (4, _)] _ _ rfl ?_)
  clear hK K
  refine W.block ?_
  refine W.ord [4, 0, 3] (ts' := [(4, _)] ++ [(0, _), (3, _)]) rfl ?_
  refine W.loopC [(4, _)] [n] (fun κ V G μ => ∃ i : Nat, V = [(4, .int .i64 (i : Nat))] ∧ κ = cs.length - i ∧ (i ≤ cs.length) ∧ (G n = some (.cells false (flat (copyC cs i))))) _ ⟨0, rfl, rfl, (by first | omega | assumption | rfl | simp_all), (by rw [copyC_zero, ← zeros_flat]; exact look_same)⟩ fun κ V G μ hinv hμ hkeep hfr => ?_
  obtain ⟨i, rfl, rfl, hi, hG⟩ := hinv
  refine W.seq ?_
  refine W.sR [0, 3, 4, 11] fun K hK => ?_
  refine st rfl rfl (e_move rfl) ?_
  refine st rfl rfl (e_move rfl) ?_
  refine st rfl rfl (e_len t22 rfl) ?_
  refine st rfl rfl (e_lss rfl rfl) ?_
  refine stB (fun hb1 => ?_) (fun hb1 => ?_)
  ·
    try simp only [decide_eq_true_eq, decide_eq_false_iff_not, Bool.not_eq_true', Bool.not_eq_false', Bool.not_eq_true, Bool.not_eq_false] at hb1
    refine stEnd (hK _ [(0, _), (3, _), (4, _), (11, _)] _ _ rfl ?_)
    clear hK K
    refine W.condT rfl ?_
    refine W.skip ?_
    refine thenN ?_
    refine W.seq ?_
    refine W.block ?_
    refine W.rR [0, 3, 4] fun K hK => ?_
    refine st rfl rfl (e_move rfl) ?_
    refine st rfl rfl (e_move rfl) ?_
    refine st rfl rfl (e_move rfl) ?_
    refine st rfl rfl (e_move rfl) ?_
    refine st rfl rfl (e_idxSK _ t22 t25 rfl rfl rfl (by first | omega | decide)) ?_
    refine st rfl rfl (e_loadP t25 rfl rfl (by repeat (first | exact look_same | assumption | refine look_ne (by omega) ?_ | refine look_keep (by assumption) (by omega) (by simp; try omega) ?_)) (flat_at (by omega))) ?_
    refine stC rfl rfl rfl (laws_toIntA3_s _ _ _ ) ?_
    refine st rfl rfl (e_idxSK _ t22 t25 rfl rfl rfl (by first | omega | decide)) ?_
    refine stN rfl (e_storeP t25 rfl rfl (by repeat (first | exact look_same | assumption | refine look_ne (by omega) ?_ | refine look_keep (by assumption) (by omega) (by simp; try omega) ?_)) rfl (by rw [flat_length, copyC_length (by omega)]; omega)) ?_
    refine stEnd (hK _ [(0, _), (3, _), (4, _)] _ _ rfl ?_)
    clear hK K
    refine blockN ?_
    refine thenN ?_
    refine W.rR [4, 0, 3] fun K hK => ?_
    refine st rfl rfl (e_move rfl) ?_
    refine st rfl rfl (e_add rfl rfl (inB _ (by omega))) ?_
    refine st rfl rfl (e_assign rfl) ?_
    refine stEnd (hK _ [(4, _), (0, _), (3, _)] _ _ rfl ?_)
    clear hK K
    exact roundN (V' := [(4, _)]) [4, 0, 3] rfl (by omega) (by repeat (first | exact Keeps.refl _ _ _ | assumption | refine Keeps.trans ?_ (by assumption) (by omega) (by simp; try omega) | refine Keeps.set ?_ (by first | exact Or.inl (by omega) | (simp; done) | (simp; omega)) | refine Keeps.del ?_ (by first | exact Or.inl (by omega) | (simp; done) | (simp; omega)))) _ (by omega) ⟨i + 1, rfl, rfl, (by first | omega | assumption | simp_all), (look_same.trans (congrArg some (congrArg (Blk.cells false) ((flat_set (c := at3 cs i) (by rw [copyC_length (by omega)]; omega)).trans (congrArg flat (copyC_set (by omega)))))))⟩
  ·
    try simp only [decide_eq_true_eq, decide_eq_false_iff_not, Bool.not_eq_true', Bool.not_eq_false', Bool.not_eq_true, Bool.not_eq_false] at hb1
    refine stEnd (hK _ [(0, _), (3, _), (4, _), (11, _)] _ _ rfl ?_)
    clear hK K
    refine W.condF rfl ?_
    refine W.exit ?_
    refine thenE ?_
    refine thenE ?_
    refine blockX ?_
    refine thenN ?_
    refine W.sR [2] fun K hK => ?_
    refine st rfl rfl (e_move rfl) ?_
    refine st rfl rfl (e_assign rfl) ?_
    refine stEnd (hK _ [(2, _)] _ _ rfl ?_)
    clear hK K
    refine W.ret ?_
    refine ⟨.inr rfl, Ends.v1 (n) (by omega) (by repeat (first | exact self_old | assumption | refine set_old ?_ (by omega) | refine keep_old (by assumption) ?_ (by omega) (by simp; try omega))) hfresh (by repeat (first | exact look_same | assumption | refine look_ne (by omega) ?_ | refine look_keep (by assumption) (by omega) (by simp; try omega) ?_)) ?_ (by first | exact flat_plain _ | exact ints_plain _) (by simp [ltT, ltA, ltC, ltV]; try omega) (res1 (resT rfl) rfl) ?_⟩
    · (obtain rfl : i = cs.length := by omega); rw [copyC_all]
    · first | rfl | simp [renT, renV, renC, renA, one]
theorem laws_toIntA3S_row_s (sv : Value) (cs : List C) (r : Nat) (H : Heap) (n : Nat) (hr : RowC H r sv cs) (hlen : cs.length ≤ 1048576) : Fn Try.prog 19 [sv] H n (.slice (some ⟨n, 0, none⟩) cs.length 3) (H.set n (.cells false (flat cs))) (n + 1) := by
  rcases hr with ⟨rfl, rfl⟩ | ⟨b, _, rfl, hb⟩
  · exact laws_toIntA3S_nil_s H n
  · exact laws_toIntA3S_s b true cs H n hb hlen
theorem laws_toHeap_s (X Y Z : Int) (sv : Value) (cs : List C) (r : Nat) (H : Heap) (n : Nat) (hr : RowC H r sv cs) (hrn : r ≤ n) (hlen : cs.length ≤ 1048576) : Fn Try.prog 18 [.agg #[.int .i64 X, .int .i64 Y, .int .i64 Z, sv]] H n (.agg #[.int .i64 X, .int .i64 Y, .int .i64 Z, .slice (some ⟨n, 0, none⟩) cs.length 3]) (H.set n (.cells false (flat cs))) (n + 1) := by
  refine Fn.intro' Try.func18 rfl (by kernel_rfl) Try.ntmps18 (by simp) (by omega) fun hfresh => ?_
  obtain ⟨p, e, rfl⟩ := hr.form
  show W _ _ _ ⟨[(0, _)], _, _⟩ _
  refine W.sR [1, 2] fun K hK => ?_
  refine st rfl rfl (e_boxA rfl) ?_
  refine st rfl rfl (e_alloc t30 rfl) ?_
  refine stEnd (hK _ [(1, _), (2, _)] _ _ rfl ?_)
  clear hK K
  refine W.sR [1, 2, 3] fun K hK => ?_
  refine st rfl rfl (e_alloc t30 rfl) ?_
  refine stEnd (hK _ [(1, _), (2, _), (3, _)] _ _ rfl ?_)
  clear hK K
  refine W.sR [1, 2, 3] fun K hK => ?_
  refine st rfl rfl (e_fieldAddr t24 t3 rfl rfl) ?_
  refine st rfl rfl (e_load1 t3 rfl rfl (by repeat (first | exact look_same | assumption | refine look_ne (by omega) ?_)) rfl) ?_
  refine st rfl rfl (e_fieldAddr t30 t3 rfl rfl) ?_
  refine stN rfl (e_store1 t3 rfl rfl rfl (by repeat (first | exact look_same | assumption | refine look_ne (by omega) ?_)) (by first | decide | (simp only [ints_length, flat_length]; omega) | (simp; done) | (simp; omega))) ?_
  refine stEnd (hK _ [(1, _), (2, _), (3, _)] _ _ rfl ?_)
  clear hK K
  refine W.sR [1, 2, 3] fun K hK => ?_
  refine st rfl rfl (e_fieldAddr t24 t3 rfl rfl) ?_
  refine st rfl rfl (e_load1 t3 rfl rfl (by repeat (first | exact look_same | assumption | refine look_ne (by omega) ?_)) rfl) ?_
  refine st rfl rfl (e_fieldAddr t30 t3 rfl rfl) ?_
  refine stN rfl (e_store1 t3 rfl rfl rfl (by repeat (first | exact look_same | assumption | refine look_ne (by omega) ?_)) (by first | decide | (simp only [ints_length, flat_length]; omega) | (simp; done) | (simp; omega))) ?_
  refine stEnd (hK _ [(1, _), (2, _), (3, _)] _ _ rfl ?_)
  clear hK K
  refine W.sR [1, 2, 3] fun K hK => ?_
  refine st rfl rfl (e_fieldAddr t24 t3 rfl rfl) ?_
  refine st rfl rfl (e_load1 t3 rfl rfl (by repeat (first | exact look_same | assumption | refine look_ne (by omega) ?_)) rfl) ?_
  refine st rfl rfl (e_fieldAddr t30 t3 rfl rfl) ?_
  refine stN rfl (e_store1 t3 rfl rfl rfl (by repeat (first | exact look_same | assumption | refine look_ne (by omega) ?_)) (by first | decide | (simp only [ints_length, flat_length]; omega) | (simp; done) | (simp; omega))) ?_
  refine stEnd (hK _ [(1, _), (2, _), (3, _)] _ _ rfl ?_)
  clear hK K
  refine W.sR [2, 3] fun K hK => ?_
  refine st rfl rfl (e_fieldAddr t24 t22 rfl rfl) ?_
  refine st rfl rfl (e_load1 t22 rfl rfl (by repeat (first | exact look_same | assumption | refine look_ne (by omega) ?_)) rfl) ?_
  refine stC rfl rfl rfl (laws_toIntA3S_row_s _ _ _ _ _ (RowC.keep hr (by omega) (by repeat (first | exact self_old | assumption | refine set_old ?_ (by omega)))) (by omega)) ?_
  refine st rfl rfl (e_fieldAddr t30 t22 rfl rfl) ?_
  refine stN rfl (e_store1 t22 rfl rfl rfl (by repeat (first | exact look_same | assumption | refine look_ne (by omega) ?_)) (by first | decide | (simp only [ints_length, flat_length]; omega) | (simp; done) | (simp; omega))) ?_
  refine stEnd (hK _ [(2, _), (3, _)] _ _ rfl ?_)
  clear hK K
  refine W.sR [2] fun K hK => ?_
  refine st rfl rfl (e_loadA t30 rfl rfl (by repeat (first | exact look_same | assumption | refine look_ne (by omega) ?_)) rfl rfl) ?_
  refine stN rfl (e_storeA t30 rfl rfl (by repeat (first | exact look_same | assumption | refine look_ne (by omega) ?_)) rfl rfl rfl (by decide)) ?_
  refine stEnd (hK _ [(2, _)] _ _ rfl ?_)
  clear hK K
  refine W.ret ?_
  refine ⟨.inr rfl, Ends.v1 (n + 1 + 1 + 1) (by omega) (by repeat (first | exact self_old | assumption | refine set_old ?_ (by omega))) hfresh (by repeat (first | exact look_same | assumption | refine look_ne (by omega) ?_)) ?_ (by first | exact flat_plain _ | exact ints_plain _) (by simp [ltT, ltA, ltC, ltV]; try omega) (res1 (resC t30 rfl rfl (by repeat (first | exact look_same | assumption | refine look_ne (by omega) ?_)) rfl rfl) rfl) ?_⟩
  · rfl
  · first | rfl | simp [renT, renV, renC, renA, one]
theorem spec_l1In_s (a b c : Int) (H : Heap) (n : Nat) : Fn Try.prog 111 [.int .i64 a, .int .i64 b, .int .i64 c] H n (.bool (within a b c)) (H) (n) := by
  refine Fn.intro' Try.func111 rfl (by kernel_rfl) Try.ntmps111 (by simp) (by omega) fun hfresh => ?_
  show W _ _ _ ⟨[(0, _), (1, _), (2, _)], _, _⟩ _
  refine W.sR [0, 1, 2] fun K hK => ?_
  refine st rfl rfl (e_assign rfl) ?_
  refine stEnd (hK _ [(0, _), (1, _), (2, _)] _ _ rfl ?_)
  clear hK K
  refine W.sR [6] fun K hK => ?_
  refine st rfl rfl (e_move rfl) ?_
  refine st rfl rfl (e_move rfl) ?_
  refine st rfl rfl (e_geq rfl rfl) ?_
  refine st rfl rfl (e_move rfl) ?_
  refine stB (fun hb1 => ?_) (fun hb1 => ?_)
  ·
    try simp only [decide_eq_true_eq, decide_eq_false_iff_not, Bool.not_eq_true', Bool.not_eq_false', Bool.not_eq_true, Bool.not_eq_false] at hb1
    refine st rfl rfl (e_move rfl) ?_
    refine st rfl rfl (e_move rfl) ?_
    refine st rfl rfl (e_leq rfl rfl) ?_
    refine st rfl rfl (e_pickT rfl rfl) ?_
    refine st rfl rfl (e_assign rfl) ?_
    refine stEnd (hK _ [(6, _)] _ _ rfl ?_)
    clear hK K
    refine W.ret ?_
    refine ⟨.inr rfl, Ends.v0 (by repeat (first | exact self_old | assumption | refine set_old ?_ (by omega))) hfresh (by first | rfl | (simp [ltT, ltA, ltC, ltV]; try omega)) (res1 (resT rfl) rfl) ?_⟩
    simp [within, *] <;> omega
  ·
    try simp only [decide_eq_true_eq, decide_eq_false_iff_not, Bool.not_eq_true', Bool.not_eq_false', Bool.not_eq_true, Bool.not_eq_false] at hb1
    refine stS rfl rfl ?_
    refine stS rfl rfl ?_
    refine stS rfl rfl ?_
    refine st rfl rfl (e_pickF rfl rfl) ?_
    refine st rfl rfl (e_assign rfl) ?_
    refine stEnd (hK _ [(6, _)] _ _ rfl ?_)
    clear hK K
    refine W.ret ?_
    refine ⟨.inr rfl, Ends.v0 (by repeat (first | exact self_old | assumption | refine set_old ?_ (by omega))) hfresh (by first | rfl | (simp [ltT, ltA, ltC, ltV]; try omega)) (res1 (resT rfl) rfl) ?_⟩
    simp [within, *] <;> omega
theorem spec_l2Sides_s (X Y Z : Int) (H : Heap) (n : Nat) : Fn Try.prog 109 [.int .i64 X, .int .i64 Y, .int .i64 Z] H n (.bool (sides X Y Z)) (H) (n) := by
  refine Fn.intro' Try.func109 rfl (by kernel_rfl) Try.ntmps109 (by simp) (by omega) fun hfresh => ?_
  show W _ _ _ ⟨[(0, _), (1, _), (2, _)], _, _⟩ _
  refine W.sR [0, 1, 2] fun K hK => ?_
  refine st rfl rfl (e_assign rfl) ?_
  refine stEnd (hK _ [(0, _), (1, _), (2, _)] _ _ rfl ?_)
  clear hK K
  refine W.sR [6] fun K hK => ?_
  refine st rfl rfl (e_move rfl) ?_
  refine stC rfl rfl rfl (spec_l1In_s _ _ _ _ _ ) ?_
  refine st rfl rfl (e_move rfl) ?_
  refine stB (fun hb1 => ?_) (fun hb1 => ?_)
  ·
    try simp only [decide_eq_true_eq, decide_eq_false_iff_not, Bool.not_eq_true', Bool.not_eq_false', Bool.not_eq_true, Bool.not_eq_false] at hb1
    refine st rfl rfl (e_move rfl) ?_
    refine stC rfl rfl rfl (spec_l1In_s _ _ _ _ _ ) ?_
    refine st rfl rfl (e_pickT rfl rfl) ?_
    refine st rfl rfl (e_move rfl) ?_
    refine stB (fun hb2 => ?_) (fun hb2 => ?_)
    ·
      try simp only [decide_eq_true_eq, decide_eq_false_iff_not, Bool.not_eq_true', Bool.not_eq_false', Bool.not_eq_true, Bool.not_eq_false] at hb2
      refine st rfl rfl (e_move rfl) ?_
      refine stC rfl rfl rfl (spec_l1In_s _ _ _ _ _ ) ?_
      refine st rfl rfl (e_pickT rfl rfl) ?_
      refine st rfl rfl (e_assign rfl) ?_
      refine stEnd (hK _ [(6, _)] _ _ rfl ?_)
      clear hK K
      refine W.ret ?_
      refine ⟨.inr rfl, Ends.v0 (by repeat (first | exact self_old | assumption | refine set_old ?_ (by omega))) hfresh (by first | rfl | (simp [ltT, ltA, ltC, ltV]; try omega)) (res1 (resT rfl) rfl) ?_⟩
      simp_all [sides]
    ·
      try simp only [decide_eq_true_eq, decide_eq_false_iff_not, Bool.not_eq_true', Bool.not_eq_false', Bool.not_eq_true, Bool.not_eq_false] at hb2
      refine stS rfl rfl ?_
      refine stS rfl rfl ?_
      refine st rfl rfl (e_pickF rfl rfl) ?_
      refine st rfl rfl (e_assign rfl) ?_
      refine stEnd (hK _ [(6, _)] _ _ rfl ?_)
      clear hK K
      refine W.ret ?_
      refine ⟨.inr rfl, Ends.v0 (by repeat (first | exact self_old | assumption | refine set_old ?_ (by omega))) hfresh (by first | rfl | (simp [ltT, ltA, ltC, ltV]; try omega)) (res1 (resT rfl) rfl) ?_⟩
      simp_all [sides]
  ·
    try simp only [decide_eq_true_eq, decide_eq_false_iff_not, Bool.not_eq_true', Bool.not_eq_false', Bool.not_eq_true, Bool.not_eq_false] at hb1
    refine stS rfl rfl ?_
    refine stS rfl rfl ?_
    refine st rfl rfl (e_pickF rfl rfl) ?_
    refine st rfl rfl (e_move rfl) ?_
    refine stS rfl rfl ?_
    refine stS rfl rfl ?_
    refine st rfl rfl (e_pickF rfl rfl) ?_
    refine st rfl rfl (e_assign rfl) ?_
    refine stEnd (hK _ [(6, _)] _ _ rfl ?_)
    clear hK K
    refine W.ret ?_
    refine ⟨.inr rfl, Ends.v0 (by repeat (first | exact self_old | assumption | refine set_old ?_ (by omega))) hfresh (by first | rfl | (simp [ltT, ltA, ltC, ltV]; try omega)) (res1 (resT rfl) rfl) ?_⟩
    simp_all [sides]
theorem spec_l2In_s (X Y Z : Int) (sv : Value) (c : C) (H : Heap) (n : Nat) (hX : (1 ≤ X ∧ X ≤ 4) ∧ (1 ≤ Y ∧ Y ≤ 4) ∧ (1 ≤ Z ∧ Z ≤ 4)) : Fn Try.prog 83 [.agg #[.int .i64 X, .int .i64 Y, .int .i64 Z, sv], .agg #[.int .i64 c.1, .int .i64 c.2.1, .int .i64 c.2.2]] H n (.bool (inBox X Y Z c)) (H) (n) := by
  refine Fn.intro' Try.func83 rfl (by kernel_rfl) Try.ntmps83 (by simp) (by omega) fun hfresh => ?_
  show W _ _ _ ⟨[(0, _), (1, _)], _, _⟩ _
  refine W.sR [2, 3] fun K hK => ?_
  refine st rfl rfl (e_boxA rfl) ?_
  refine st rfl rfl (e_boxA rfl) ?_
  refine st rfl rfl (e_assign rfl) ?_
  refine stEnd (hK _ [(2, _), (3, _)] _ _ rfl ?_)
  clear hK K
  refine W.sR [4] fun K hK => ?_
  refine st rfl rfl (e_idxAK (0) t25 t3 rfl rfl (by first | rfl | omega) (by first | omega | decide)) ?_
  refine st rfl rfl (e_load1 t3 rfl rfl (by repeat (first | exact look_same | assumption | refine look_ne (by omega) ?_)) (by first | rfl | exact tri_getL (by omega))) ?_
  refine st rfl rfl (e_fieldAddr t30 t3 rfl rfl) ?_
  refine st rfl rfl (e_load1 t3 rfl rfl (by repeat (first | exact look_same | assumption | refine look_ne (by omega) ?_)) rfl) ?_
  refine st rfl rfl (e_sub rfl rfl (inB _ (by omega))) ?_
  refine stC rfl rfl rfl (spec_l1In_s _ _ _ _ _ ) ?_
  refine st rfl rfl (e_move rfl) ?_
  refine stB (fun hb1 => ?_) (fun hb1 => ?_)
  ·
    try simp only [decide_eq_true_eq, decide_eq_false_iff_not, Bool.not_eq_true', Bool.not_eq_false', Bool.not_eq_true, Bool.not_eq_false] at hb1
    refine st rfl rfl (e_idxAK (1) t25 t3 rfl rfl (by first | rfl | omega) (by first | omega | decide)) ?_
    refine st rfl rfl (e_load1 t3 rfl rfl (by repeat (first | exact look_same | assumption | refine look_ne (by omega) ?_)) (by first | rfl | exact tri_getL (by omega))) ?_
    refine st rfl rfl (e_fieldAddr t30 t3 rfl rfl) ?_
    refine st rfl rfl (e_load1 t3 rfl rfl (by repeat (first | exact look_same | assumption | refine look_ne (by omega) ?_)) rfl) ?_
    refine st rfl rfl (e_sub rfl rfl (inB _ (by omega))) ?_
    refine stC rfl rfl rfl (spec_l1In_s _ _ _ _ _ ) ?_
    refine st rfl rfl (e_pickT rfl rfl) ?_
    refine st rfl rfl (e_move rfl) ?_
    refine stB (fun hb2 => ?_) (fun hb2 => ?_)
    ·
      try simp only [decide_eq_true_eq, decide_eq_false_iff_not, Bool.not_eq_true', Bool.not_eq_false', Bool.not_eq_true, Bool.not_eq_false] at hb2
      refine st rfl rfl (e_idxAK (2) t25 t3 rfl rfl (by first | rfl | omega) (by first | omega | decide)) ?_
      refine st rfl rfl (e_load1 t3 rfl rfl (by repeat (first | exact look_same | assumption | refine look_ne (by omega) ?_)) (by first | rfl | exact tri_getL (by omega))) ?_
      refine st rfl rfl (e_fieldAddr t30 t3 rfl rfl) ?_
      refine st rfl rfl (e_load1 t3 rfl rfl (by repeat (first | exact look_same | assumption | refine look_ne (by omega) ?_)) rfl) ?_
      refine st rfl rfl (e_sub rfl rfl (inB _ (by omega))) ?_
      refine stC rfl rfl rfl (spec_l1In_s _ _ _ _ _ ) ?_
      refine st rfl rfl (e_pickT rfl rfl) ?_
      refine st rfl rfl (e_assign rfl) ?_
      refine stEnd (hK _ [(4, _)] _ _ rfl ?_)
      clear hK K
      refine W.ret ?_
      refine ⟨.inr rfl, Ends.v0 (by repeat (first | exact self_old | assumption | refine set_old ?_ (by omega))) hfresh (by first | rfl | (simp [ltT, ltA, ltC, ltV]; try omega)) (res1 (resT rfl) rfl) ?_⟩
      simp_all [inBox]
    ·
      try simp only [decide_eq_true_eq, decide_eq_false_iff_not, Bool.not_eq_true', Bool.not_eq_false', Bool.not_eq_true, Bool.not_eq_false] at hb2
      refine stS rfl rfl ?_
      refine stS rfl rfl ?_
      refine stS rfl rfl ?_
      refine stS rfl rfl ?_
      refine stS rfl rfl ?_
      refine stS rfl rfl ?_
      refine st rfl rfl (e_pickF rfl rfl) ?_
      refine st rfl rfl (e_assign rfl) ?_
      refine stEnd (hK _ [(4, _)] _ _ rfl ?_)
      clear hK K
      refine W.ret ?_
      refine ⟨.inr rfl, Ends.v0 (by repeat (first | exact self_old | assumption | refine set_old ?_ (by omega))) hfresh (by first | rfl | (simp [ltT, ltA, ltC, ltV]; try omega)) (res1 (resT rfl) rfl) ?_⟩
      simp_all [inBox]
  ·
    try simp only [decide_eq_true_eq, decide_eq_false_iff_not, Bool.not_eq_true', Bool.not_eq_false', Bool.not_eq_true, Bool.not_eq_false] at hb1
    refine stS rfl rfl ?_
    refine stS rfl rfl ?_
    refine stS rfl rfl ?_
    refine stS rfl rfl ?_
    refine stS rfl rfl ?_
    refine stS rfl rfl ?_
    refine st rfl rfl (e_pickF rfl rfl) ?_
    refine st rfl rfl (e_move rfl) ?_
    refine stS rfl rfl ?_
    refine stS rfl rfl ?_
    refine stS rfl rfl ?_
    refine stS rfl rfl ?_
    refine stS rfl rfl ?_
    refine stS rfl rfl ?_
    refine st rfl rfl (e_pickF rfl rfl) ?_
    refine st rfl rfl (e_assign rfl) ?_
    refine stEnd (hK _ [(4, _)] _ _ rfl ?_)
    clear hK K
    refine W.ret ?_
    refine ⟨.inr rfl, Ends.v0 (by repeat (first | exact self_old | assumption | refine set_old ?_ (by omega))) hfresh (by first | rfl | (simp [ltT, ltA, ltC, ltV]; try omega)) (res1 (resT rfl) rfl) ?_⟩
    simp_all [inBox]
theorem spec_l2Before_s (a b : C) (H : Heap) (n : Nat) : Fn Try.prog 110 [.agg #[.int .i64 a.1, .int .i64 a.2.1, .int .i64 a.2.2], .agg #[.int .i64 b.1, .int .i64 b.2.1, .int .i64 b.2.2]] H n (.bool (before a b)) (H) (n) := by
  refine Fn.intro' Try.func110 rfl (by kernel_rfl) Try.ntmps110 (by simp) (by omega) fun hfresh => ?_
  show W _ _ _ ⟨[(0, _), (1, _)], _, _⟩ _
  refine W.sR [2, 3] fun K hK => ?_
  refine st rfl rfl (e_boxA rfl) ?_
  refine st rfl rfl (e_boxA rfl) ?_
  refine st rfl rfl (e_assign rfl) ?_
  refine stEnd (hK _ [(2, _), (3, _)] _ _ rfl ?_)
  clear hK K
  refine W.seq ?_
  refine W.sR [2, 3, 5] fun K hK => ?_
  refine st rfl rfl (e_assign rfl) ?_
  refine stEnd (hK _ [(2, _), (3, _), (5, _)] _ _ rfl ?_)
  clear hK K
  refine W.block ?_
  refine W.ord [5, 2, 3] (ts' := [(5, _)] ++ [(2, _), (3, _)]) rfl ?_
  refine W.loopC [(5, _)] [] (fun κ V G μ => ∃ i : Nat, V = [(5, .int .i64 (i : Nat))] ∧ κ = 3 - i ∧ (i ≤ 3) ∧ (∀ j, j < i → ci a j = ci b j)) _ ⟨0, rfl, rfl, (by first | omega | assumption | rfl | simp_all), (fun j hj => absurd hj (by omega))⟩ fun κ V G μ hinv hμ hkeep hfr => ?_
  obtain ⟨i, rfl, rfl, hi, hq⟩ := hinv
  refine W.seq ?_
  refine W.sR [2, 3, 5, 7] fun K hK => ?_
  refine st rfl rfl (e_move rfl) ?_
  refine st rfl rfl (e_lss rfl rfl) ?_
  refine stB (fun hb1 => ?_) (fun hb1 => ?_)
  ·
    try simp only [decide_eq_true_eq, decide_eq_false_iff_not, Bool.not_eq_true', Bool.not_eq_false', Bool.not_eq_true, Bool.not_eq_false] at hb1
    refine stEnd (hK _ [(2, _), (3, _), (5, _), (7, _)] _ _ rfl ?_)
    clear hK K
    refine W.condT rfl ?_
    refine W.skip ?_
    refine thenN ?_
    refine W.seq ?_
    refine W.block ?_
    refine W.sD [2, 3, 5, 16] [0, 1, 3, 0, 8, 24, 63] (by kernel_rfl) (by kernel_rfl) fun K hK => ?_
    refine dP rfl rfl rfl (e_move rfl) ?_
    refine dP rfl rfl rfl (e_idxAK _ t25 t3 rfl rfl rfl (by first | omega | decide)) ?_
    refine dL rfl rfl rfl (by omega) (accB_ok rfl) (e_load1 t3 rfl rfl (by repeat (first | exact look_same | assumption | refine look_ne (by omega) ?_ | refine look_keep (by assumption) (by omega) (by simp; try omega) ?_)) (by first | rfl | exact tri_getL (by omega))) ?_
    refine dP rfl rfl rfl (e_move rfl) ?_
    refine dP rfl rfl rfl (e_idxAK _ t25 t3 rfl rfl rfl (by first | omega | decide)) ?_
    refine dL rfl rfl rfl (by omega) (accB_ok rfl) (e_load1 t3 rfl rfl (by repeat (first | exact look_same | assumption | refine look_ne (by omega) ?_ | refine look_keep (by assumption) (by omega) (by simp; try omega) ?_)) (by first | rfl | exact tri_getL (by omega))) ?_
    refine dP rfl rfl rfl (e_neq rfl rfl) ?_
    refine dB (fun hb2 => ?_) (fun hb2 => ?_)
    ·
      try simp only [decide_eq_true_eq, decide_eq_false_iff_not, Bool.not_eq_true', Bool.not_eq_false', Bool.not_eq_true, Bool.not_eq_false] at hb2
      refine dEnd (hK _ [(2, _), (3, _), (5, _), (16, _)] _ _ rfl ?_)
      clear hK K
      refine W.condT rfl ?_
      refine W.sD [4] [0, 1, 3, 0, 8, 24, 63, 127] (by kernel_rfl) (by kernel_rfl) fun K hK => ?_
      refine dP rfl rfl rfl (e_move rfl) ?_
      refine dP rfl rfl rfl (e_idxAK _ t25 t3 rfl rfl rfl (by first | omega | decide)) ?_
      refine dL rfl rfl rfl (by omega) (accB_ok rfl) (e_load1 t3 rfl rfl (by repeat (first | exact look_same | assumption | refine look_ne (by omega) ?_ | refine look_keep (by assumption) (by omega) (by simp; try omega) ?_)) (by first | rfl | exact tri_getL (by omega))) ?_
      refine dP rfl rfl rfl (e_move rfl) ?_
      refine dP rfl rfl rfl (e_idxAK _ t25 t3 rfl rfl rfl (by first | omega | decide)) ?_
      refine dL rfl rfl rfl (by omega) (accB_ok rfl) (e_load1 t3 rfl rfl (by repeat (first | exact look_same | assumption | refine look_ne (by omega) ?_ | refine look_keep (by assumption) (by omega) (by simp; try omega) ?_)) (by first | rfl | exact tri_getL (by omega))) ?_
      refine dP rfl rfl rfl (e_lss rfl rfl) ?_
      refine dP rfl rfl rfl (e_assign rfl) ?_
      refine dEnd (hK _ [(4, _)] _ _ rfl ?_)
      clear hK K
      refine W.ret ?_
      refine blockR ?_
      refine thenR ?_
      refine thenR ?_
      refine blockR ?_
      refine thenR ?_
      refine ⟨.inr rfl, Ends.v0 (by repeat (first | exact self_old | assumption | refine set_old ?_ (by omega) | refine keep_old (by assumption) ?_ (by omega) (by simp; try omega))) hfresh (by first | rfl | (simp [ltT, ltA, ltC, ltV]; try omega)) (res1 (resT rfl) rfl) ?_⟩
      first | exact congrArg Value.bool (before_at (by omega) hq (by assumption)).symm | rw [before_no (fun j hj => hq j (by omega))]
    ·
      try simp only [decide_eq_true_eq, decide_eq_false_iff_not, Bool.not_eq_true', Bool.not_eq_false', Bool.not_eq_true, Bool.not_eq_false] at hb2
      refine dEnd (hK _ [(2, _), (3, _), (5, _), (16, _)] _ _ rfl ?_)
      clear hK K
      refine W.condF rfl ?_
      refine W.skip ?_
      refine blockN ?_
      refine thenN ?_
      refine W.rR [5, 2, 3] fun K hK => ?_
      refine st rfl rfl (e_move rfl) ?_
      refine st rfl rfl (e_add rfl rfl (inB _ (by omega))) ?_
      refine st rfl rfl (e_assign rfl) ?_
      refine stEnd (hK _ [(5, _), (2, _), (3, _)] _ _ rfl ?_)
      clear hK K
      exact roundN (V' := [(5, _)]) [5, 2, 3] rfl (by omega) (by repeat (first | exact Keeps.refl _ _ _ | assumption | refine Keeps.trans ?_ (by assumption) (by omega) (by simp; try omega) | refine Keeps.set ?_ (by first | exact Or.inl (by omega) | (simp; done) | (simp; omega)) | refine Keeps.del ?_ (by first | exact Or.inl (by omega) | (simp; done) | (simp; omega)))) _ (by omega) ⟨i + 1, rfl, rfl, (by first | omega | assumption | simp_all), (all_succ hq (by assumption))⟩
  ·
    try simp only [decide_eq_true_eq, decide_eq_false_iff_not, Bool.not_eq_true', Bool.not_eq_false', Bool.not_eq_true, Bool.not_eq_false] at hb1
    refine stEnd (hK _ [(2, _), (3, _), (5, _), (7, _)] _ _ rfl ?_)
    clear hK K
    refine W.condF rfl ?_
    refine W.exit ?_
    refine thenE ?_
    refine thenE ?_
    refine blockX ?_
    refine thenN ?_
    refine W.sR [4] fun K hK => ?_
    refine st rfl rfl (e_assign rfl) ?_
    refine stEnd (hK _ [(4, _)] _ _ rfl ?_)
    clear hK K
    refine W.ret ?_
    refine ⟨.inr rfl, Ends.v0 (by repeat (first | exact self_old | assumption | refine set_old ?_ (by omega) | refine keep_old (by assumption) ?_ (by omega) (by simp; try omega))) hfresh (by first | rfl | (simp [ltT, ltA, ltC, ltV]; try omega)) (res1 (resT rfl) rfl) ?_⟩
    first | exact congrArg Value.bool (before_at (by omega) hq (by assumption)).symm | rw [before_no (fun j hj => hq j (by omega))]
theorem spec_l2Heap_s (X Y Z : Int) (b : Nat) (ro : Bool) (cs : List C) (H : Heap) (n : Nat) (hb : H b = some (.cells ro (flat cs))) (hlen : cs.length ≤ 1048576) : Fn Try.prog 57 [.agg #[.int .i64 X, .int .i64 Y, .int .i64 Z, .slice (some ⟨b, 0, none⟩) cs.length 3]] H n (.bool (isHeap X Y Z cs)) (H) (n) := by
  refine Fn.intro' Try.func57 rfl (by kernel_rfl) Try.ntmps57 (by simp) (by omega) fun hfresh => ?_
  have lt_hb := lt_fresh hfresh hb
  show W _ _ _ ⟨[(0, _)], _, _⟩ _
  refine W.sR [1] fun K hK => ?_
  refine st rfl rfl (e_boxA rfl) ?_
  refine st rfl rfl (e_assign rfl) ?_
  refine stEnd (hK _ [(1, _)] _ _ rfl ?_)
  clear hK K
  refine W.seq ?_
  refine W.sR [1, 11] fun K hK => ?_
  refine st rfl rfl (e_fieldAddr t30 t3 rfl rfl) ?_
  refine st rfl rfl (e_load1 t3 rfl rfl (by repeat (first | exact look_same | assumption | refine look_ne (by omega) ?_ | refine look_keep (by assumption) (by omega) (by simp; try omega) ?_)) rfl) ?_
  refine st rfl rfl (e_fieldAddr t30 t3 rfl rfl) ?_
  refine st rfl rfl (e_load1 t3 rfl rfl (by repeat (first | exact look_same | assumption | refine look_ne (by omega) ?_ | refine look_keep (by assumption) (by omega) (by simp; try omega) ?_)) rfl) ?_
  refine st rfl rfl (e_fieldAddr t30 t3 rfl rfl) ?_
  refine st rfl rfl (e_load1 t3 rfl rfl (by repeat (first | exact look_same | assumption | refine look_ne (by omega) ?_ | refine look_keep (by assumption) (by omega) (by simp; try omega) ?_)) rfl) ?_
  refine stC rfl rfl rfl (spec_l2Sides_s _ _ _ _ _ ) ?_
  refine st rfl rfl (e_not rfl) ?_
  refine stB (fun hv => ?_) (fun hv => ?_)
  ·
    try simp only [decide_eq_true_eq, decide_eq_false_iff_not, Bool.not_eq_true', Bool.not_eq_false', Bool.not_eq_true, Bool.not_eq_false] at hv
    refine stEnd (hK _ [(1, _), (11, _)] _ _ rfl ?_)
    clear hK K
    refine W.condT rfl ?_
    refine W.sR [2] fun K hK => ?_
    refine st rfl rfl (e_assign rfl) ?_
    refine stEnd (hK _ [(2, _)] _ _ rfl ?_)
    clear hK K
    refine W.ret ?_
    refine thenR ?_
    refine ⟨.inr rfl, Ends.v0 (by repeat (first | exact self_old | assumption | refine set_old ?_ (by omega) | refine keep_old (by assumption) ?_ (by omega) (by simp; try omega))) hfresh (by first | rfl | (simp [ltT, ltA, ltC, ltV]; try omega)) (res1 (resT rfl) rfl) ?_⟩
    first | (rw [isHeap_no1 hv]) | (rw [isHeap_yes hv (fun j hj => hq j (by omega))]) | (rw [isHeap_no2 (i := i) (by omega) (by first | exact okAt_no1 (by assumption) | exact okAt_no2 (by omega) (by assumption) | exact okAt_no3 (by omega) (by assumption))])
  ·
    try simp only [decide_eq_true_eq, decide_eq_false_iff_not, Bool.not_eq_true', Bool.not_eq_false', Bool.not_eq_true, Bool.not_eq_false] at hv
    have hX := sides_bd hv
    refine stEnd (hK _ [(1, _), (11, _)] _ _ rfl ?_)
    clear hK K
    refine W.condF rfl ?_
    refine W.skip ?_
    refine thenN ?_
    refine W.seq ?_
    refine W.sR [1, 3] fun K hK => ?_
    refine st rfl rfl (e_assign rfl) ?_
    refine stEnd (hK _ [(1, _), (3, _)] _ _ rfl ?_)
    clear hK K
    refine W.block ?_
    refine W.ord [3, 1] (ts' := [(3, _)] ++ [(1, _)]) rfl ?_
    refine W.loopC [(3, _)] [] (fun κ V G μ => ∃ i : Nat, V = [(3, .int .i64 (i : Nat))] ∧ κ = cs.length - i ∧ (i ≤ cs.length) ∧ (∀ j, j < i → okAt X Y Z cs j = true)) _ ⟨0, rfl, rfl, (by first | omega | assumption | rfl | simp_all), (fun j hj => absurd hj (by omega))⟩ fun κ V G μ hinv hμ hkeep hfr => ?_
    obtain ⟨i, rfl, rfl, hi, hq⟩ := hinv
    refine W.seq ?_
    refine W.sR [1, 3, 16] fun K hK => ?_
    refine st rfl rfl (e_move rfl) ?_
    refine st rfl rfl (e_fieldAddr t30 t22 rfl rfl) ?_
    refine st rfl rfl (e_load1 t22 rfl rfl (by repeat (first | exact look_same | assumption | refine look_ne (by omega) ?_ | refine look_keep (by assumption) (by omega) (by simp; try omega) ?_)) rfl) ?_
    refine st rfl rfl (e_len t22 rfl) ?_
    refine st rfl rfl (e_lss rfl rfl) ?_
    refine stB (fun hb2 => ?_) (fun hb2 => ?_)
    ·
      try simp only [decide_eq_true_eq, decide_eq_false_iff_not, Bool.not_eq_true', Bool.not_eq_false', Bool.not_eq_true, Bool.not_eq_false] at hb2
      refine stEnd (hK _ [(1, _), (3, _), (16, _)] _ _ rfl ?_)
      clear hK K
      refine W.condT rfl ?_
      refine W.skip ?_
      refine thenN ?_
      refine W.seq ?_
      refine W.block ?_
      refine W.sD [1, 3, 45] [0, 0, 2, 0, 14, 30, 63, 127, 255, 511, 1023, 2047, 4095, 8191, 4095, 20479, 65535, 131071, 4095, 266239, 4095, 1839103, 3936255, 8388607, 16777215, 33554431, 67108863] (by kernel_rfl) (by kernel_rfl) fun K hK => ?_
      refine dL rfl rfl rfl (by omega) (accB_ok rfl) (e_loadA t30 rfl rfl (by repeat (first | exact look_same | assumption | refine look_ne (by omega) ?_ | refine look_keep (by assumption) (by omega) (by simp; try omega) ?_)) rfl rfl) ?_
      refine dP rfl rfl rfl (e_fieldAddr t30 t22 rfl rfl) ?_
      refine dL rfl rfl rfl (by omega) (accB_ok rfl) (e_load1 t22 rfl rfl (by repeat (first | exact look_same | assumption | refine look_ne (by omega) ?_ | refine look_keep (by assumption) (by omega) (by simp; try omega) ?_)) rfl) ?_
      refine dP rfl rfl rfl (e_move rfl) ?_
      refine dP rfl rfl rfl (e_idxSK _ t22 t25 rfl rfl rfl (by first | omega | decide)) ?_
      refine dL rfl rfl rfl (by omega) (accB_ok rfl) (e_loadP t25 rfl rfl (by repeat (first | exact look_same | assumption | refine look_ne (by omega) ?_ | refine look_keep (by assumption) (by omega) (by simp; try omega) ?_)) (flat_at (by omega))) ?_
      refine dC rfl rfl rfl rfl (spec_l2In_s _ _ _ _ _ _ _ (by omega)) (accB_ok rfl) ?_
      refine dP rfl rfl rfl (e_not rfl) ?_
      refine dP rfl rfl rfl (e_move rfl) ?_
      refine dB (fun hb3 => ?_) (fun hb3 => ?_)
      ·
        try simp only [decide_eq_true_eq, decide_eq_false_iff_not, Bool.not_eq_true', Bool.not_eq_false', Bool.not_eq_true, Bool.not_eq_false] at hb3
        refine dS rfl rfl ?_
        refine dS rfl rfl ?_
        refine dS rfl rfl ?_
        refine dS rfl rfl ?_
        refine dS rfl rfl ?_
        refine dS rfl rfl ?_
        refine dS rfl rfl ?_
        refine dS rfl rfl ?_
        refine dS rfl rfl ?_
        refine dS rfl rfl ?_
        refine dS rfl rfl ?_
        refine dS rfl rfl ?_
        refine dS rfl rfl ?_
        refine dS rfl rfl ?_
        refine dS rfl rfl ?_
        refine dS rfl rfl ?_
        refine dS rfl rfl ?_
        refine dP rfl rfl rfl (e_pickT rfl rfl) ?_
        refine dEnd (hK _ [(1, _), (3, _), (45, _)] _ _ rfl ?_)
        clear hK K
        refine W.condT rfl ?_
        refine W.sR [2] fun K hK => ?_
        refine st rfl rfl (e_assign rfl) ?_
        refine stEnd (hK _ [(2, _)] _ _ rfl ?_)
        clear hK K
        refine W.ret ?_
        refine blockR ?_
        refine thenR ?_
        refine thenR ?_
        refine blockR ?_
        refine thenR ?_
        refine ⟨.inr rfl, Ends.v0 (by repeat (first | exact self_old | assumption | refine set_old ?_ (by omega) | refine keep_old (by assumption) ?_ (by omega) (by simp; try omega))) hfresh (by first | rfl | (simp [ltT, ltA, ltC, ltV]; try omega)) (res1 (resT rfl) rfl) ?_⟩
        first | (rw [isHeap_no1 hv]) | (rw [isHeap_yes hv (fun j hj => hq j (by omega))]) | (rw [isHeap_no2 (i := i) (by omega) (by first | exact okAt_no1 (by assumption) | exact okAt_no2 (by omega) (by assumption) | exact okAt_no3 (by omega) (by assumption))])
      ·
        try simp only [decide_eq_true_eq, decide_eq_false_iff_not, Bool.not_eq_true', Bool.not_eq_false', Bool.not_eq_true, Bool.not_eq_false] at hb3
        refine dP rfl rfl rfl (e_move rfl) ?_
        refine dP rfl rfl rfl (e_gtr rfl rfl) ?_
        refine dP rfl rfl rfl (e_move rfl) ?_
        refine dB (fun hb4 => ?_) (fun hb4 => ?_)
        ·
          try simp only [decide_eq_true_eq, decide_eq_false_iff_not, Bool.not_eq_true', Bool.not_eq_false', Bool.not_eq_true, Bool.not_eq_false] at hb4
          refine dP rfl rfl rfl (e_fieldAddr t30 t22 rfl rfl) ?_
          refine dL rfl rfl rfl (by omega) (accB_ok rfl) (e_load1 t22 rfl rfl (by repeat (first | exact look_same | assumption | refine look_ne (by omega) ?_ | refine look_keep (by assumption) (by omega) (by simp; try omega) ?_)) rfl) ?_
          refine dP rfl rfl rfl (e_move rfl) ?_
          refine dP rfl rfl rfl (e_sub rfl rfl (inB _ (by omega))) ?_
          refine dP rfl rfl rfl (e_idxSK (i - 1) t22 t25 rfl rfl (by first | rfl | omega) (by first | omega | decide)) ?_
          refine dL rfl rfl rfl (by omega) (accB_ok rfl) (e_loadP t25 rfl rfl (by repeat (first | exact look_same | assumption | refine look_ne (by omega) ?_ | refine look_keep (by assumption) (by omega) (by simp; try omega) ?_)) (flat_at (by omega))) ?_
          refine dP rfl rfl rfl (e_fieldAddr t30 t22 rfl rfl) ?_
          refine dL rfl rfl rfl (by omega) (accB_ok rfl) (e_load1 t22 rfl rfl (by repeat (first | exact look_same | assumption | refine look_ne (by omega) ?_ | refine look_keep (by assumption) (by omega) (by simp; try omega) ?_)) rfl) ?_
          refine dP rfl rfl rfl (e_move rfl) ?_
          refine dP rfl rfl rfl (e_idxSK _ t22 t25 rfl rfl rfl (by first | omega | decide)) ?_
          refine dL rfl rfl rfl (by omega) (accB_ok rfl) (e_loadP t25 rfl rfl (by repeat (first | exact look_same | assumption | refine look_ne (by omega) ?_ | refine look_keep (by assumption) (by omega) (by simp; try omega) ?_)) (flat_at (by omega))) ?_
          refine dC rfl rfl rfl rfl (spec_l2Before_s _ _ _ _ ) (accB_ok rfl) ?_
          refine dP rfl rfl rfl (e_not rfl) ?_
          refine dP rfl rfl rfl (e_pickT rfl rfl) ?_
          refine dP rfl rfl rfl (e_pickF rfl rfl) ?_
          refine dB (fun hb5 => ?_) (fun hb5 => ?_)
          ·
            try simp only [decide_eq_true_eq, decide_eq_false_iff_not, Bool.not_eq_true', Bool.not_eq_false', Bool.not_eq_true, Bool.not_eq_false] at hb5
            refine dEnd (hK _ [(1, _), (3, _), (45, _)] _ _ rfl ?_)
            clear hK K
            refine W.condT rfl ?_
            refine W.sR [2] fun K hK => ?_
            refine st rfl rfl (e_assign rfl) ?_
            refine stEnd (hK _ [(2, _)] _ _ rfl ?_)
            clear hK K
            refine W.ret ?_
            refine blockR ?_
            refine thenR ?_
            refine thenR ?_
            refine blockR ?_
            refine thenR ?_
            refine ⟨.inr rfl, Ends.v0 (by repeat (first | exact self_old | assumption | refine set_old ?_ (by omega) | refine keep_old (by assumption) ?_ (by omega) (by simp; try omega))) hfresh (by first | rfl | (simp [ltT, ltA, ltC, ltV]; try omega)) (res1 (resT rfl) rfl) ?_⟩
            first | (rw [isHeap_no1 hv]) | (rw [isHeap_yes hv (fun j hj => hq j (by omega))]) | (rw [isHeap_no2 (i := i) (by omega) (by first | exact okAt_no1 (by assumption) | exact okAt_no2 (by omega) (by assumption) | exact okAt_no3 (by omega) (by assumption))])
          ·
            try simp only [decide_eq_true_eq, decide_eq_false_iff_not, Bool.not_eq_true', Bool.not_eq_false', Bool.not_eq_true, Bool.not_eq_false] at hb5
            refine dEnd (hK _ [(1, _), (3, _), (45, _)] _ _ rfl ?_)
            clear hK K
            refine W.condF rfl ?_
            refine W.skip ?_
            refine blockN ?_
            refine thenN ?_
            refine W.rR [3, 1] fun K hK => ?_
            refine st rfl rfl (e_move rfl) ?_
            refine st rfl rfl (e_add rfl rfl (inB _ (by omega))) ?_
            refine st rfl rfl (e_assign rfl) ?_
            refine stEnd (hK _ [(3, _), (1, _)] _ _ rfl ?_)
            clear hK K
            exact roundN (V' := [(3, _)]) [3, 1] rfl (by omega) (by repeat (first | exact Keeps.refl _ _ _ | assumption | refine Keeps.trans ?_ (by assumption) (by omega) (by simp; try omega) | refine Keeps.set ?_ (by first | exact Or.inl (by omega) | (simp; done) | (simp; omega)) | refine Keeps.del ?_ (by first | exact Or.inl (by omega) | (simp; done) | (simp; omega)))) _ (by omega) ⟨i + 1, rfl, rfl, (by first | omega | assumption | simp_all), (all_succ hq (by first | exact okAt_yes1 (by assumption) (by omega) | exact okAt_yes2 (by assumption) (by assumption) | exact okAt_yes3 (by assumption) (by assumption)))⟩
        ·
          try simp only [decide_eq_true_eq, decide_eq_false_iff_not, Bool.not_eq_true', Bool.not_eq_false', Bool.not_eq_true, Bool.not_eq_false] at hb4
          refine dS rfl rfl ?_
          refine dS rfl rfl ?_
          refine dS rfl rfl ?_
          refine dS rfl rfl ?_
          refine dS rfl rfl ?_
          refine dS rfl rfl ?_
          refine dS rfl rfl ?_
          refine dS rfl rfl ?_
          refine dS rfl rfl ?_
          refine dS rfl rfl ?_
          refine dS rfl rfl ?_
          refine dS rfl rfl ?_
          refine dS rfl rfl ?_
          refine dP rfl rfl rfl (e_pickF rfl rfl) ?_
          refine dP rfl rfl rfl (e_pickF rfl rfl) ?_
          refine dEnd (hK _ [(1, _), (3, _), (45, _)] _ _ rfl ?_)
          clear hK K
          refine W.condF rfl ?_
          refine W.skip ?_
          refine blockN ?_
          refine thenN ?_
          refine W.rR [3, 1] fun K hK => ?_
          refine st rfl rfl (e_move rfl) ?_
          refine st rfl rfl (e_add rfl rfl (inB _ (by omega))) ?_
          refine st rfl rfl (e_assign rfl) ?_
          refine stEnd (hK _ [(3, _), (1, _)] _ _ rfl ?_)
          clear hK K
          exact roundN (V' := [(3, _)]) [3, 1] rfl (by omega) (by repeat (first | exact Keeps.refl _ _ _ | assumption | refine Keeps.trans ?_ (by assumption) (by omega) (by simp; try omega) | refine Keeps.set ?_ (by first | exact Or.inl (by omega) | (simp; done) | (simp; omega)) | refine Keeps.del ?_ (by first | exact Or.inl (by omega) | (simp; done) | (simp; omega)))) _ (by omega) ⟨i + 1, rfl, rfl, (by first | omega | assumption | simp_all), (all_succ hq (by first | exact okAt_yes1 (by assumption) (by omega) | exact okAt_yes2 (by assumption) (by assumption) | exact okAt_yes3 (by assumption) (by assumption)))⟩
    ·
      try simp only [decide_eq_true_eq, decide_eq_false_iff_not, Bool.not_eq_true', Bool.not_eq_false', Bool.not_eq_true, Bool.not_eq_false] at hb2
      refine stEnd (hK _ [(1, _), (3, _), (16, _)] _ _ rfl ?_)
      clear hK K
      refine W.condF rfl ?_
      refine W.exit ?_
      refine thenE ?_
      refine thenE ?_
      refine blockX ?_
      refine thenN ?_
      refine W.sR [2] fun K hK => ?_
      refine st rfl rfl (e_assign rfl) ?_
      refine stEnd (hK _ [(2, _)] _ _ rfl ?_)
      clear hK K
      refine W.ret ?_
      refine ⟨.inr rfl, Ends.v0 (by repeat (first | exact self_old | assumption | refine set_old ?_ (by omega) | refine keep_old (by assumption) ?_ (by omega) (by simp; try omega))) hfresh (by first | rfl | (simp [ltT, ltA, ltC, ltV]; try omega)) (res1 (resT rfl) rfl) ?_⟩
      first | (rw [isHeap_no1 hv]) | (rw [isHeap_yes hv (fun j hj => hq j (by omega))]) | (rw [isHeap_no2 (i := i) (by omega) (by first | exact okAt_no1 (by assumption) | exact okAt_no2 (by omega) (by assumption) | exact okAt_no3 (by omega) (by assumption))])
theorem spec_l1Least_s (a b : Int) (H : Heap) (n : Nat) : Fn Try.prog 112 [.int .i64 a, .int .i64 b] H n (.int .i64 (min a b)) (H) (n) := by
  refine Fn.intro' Try.func112 rfl (by kernel_rfl) Try.ntmps112 (by simp) (by omega) fun hfresh => ?_
  show W _ _ _ ⟨[(0, _), (1, _)], _, _⟩ _
  refine W.sR [0, 1] fun K hK => ?_
  refine st rfl rfl (e_assign rfl) ?_
  refine stEnd (hK _ [(0, _), (1, _)] _ _ rfl ?_)
  clear hK K
  refine W.seq ?_
  refine W.sR [0, 1, 7] fun K hK => ?_
  refine st rfl rfl (e_move rfl) ?_
  refine st rfl rfl (e_move rfl) ?_
  refine st rfl rfl (e_lss rfl rfl) ?_
  refine stB (fun hb1 => ?_) (fun hb1 => ?_)
  ·
    try simp only [decide_eq_true_eq, decide_eq_false_iff_not, Bool.not_eq_true', Bool.not_eq_false', Bool.not_eq_true, Bool.not_eq_false] at hb1
    refine stEnd (hK _ [(0, _), (1, _), (7, _)] _ _ rfl ?_)
    clear hK K
    refine W.condT rfl ?_
    refine W.sR [4] fun K hK => ?_
    refine st rfl rfl (e_move rfl) ?_
    refine st rfl rfl (e_assign rfl) ?_
    refine stEnd (hK _ [(4, _)] _ _ rfl ?_)
    clear hK K
    refine W.ret ?_
    refine thenR ?_
    refine ⟨.inr rfl, Ends.v0 (by repeat (first | exact self_old | assumption | refine set_old ?_ (by omega))) hfresh (by first | rfl | (simp [ltT, ltA, ltC, ltV]; try omega)) (res1 (resT rfl) rfl) ?_⟩
    congr 1; omega
  ·
    try simp only [decide_eq_true_eq, decide_eq_false_iff_not, Bool.not_eq_true', Bool.not_eq_false', Bool.not_eq_true, Bool.not_eq_false] at hb1
    refine stEnd (hK _ [(0, _), (1, _), (7, _)] _ _ rfl ?_)
    clear hK K
    refine W.condF rfl ?_
    refine W.skip ?_
    refine thenN ?_
    refine W.sR [4] fun K hK => ?_
    refine st rfl rfl (e_move rfl) ?_
    refine st rfl rfl (e_assign rfl) ?_
    refine stEnd (hK _ [(4, _)] _ _ rfl ?_)
    clear hK K
    refine W.ret ?_
    refine ⟨.inr rfl, Ends.v0 (by repeat (first | exact self_old | assumption | refine set_old ?_ (by omega))) hfresh (by first | rfl | (simp [ltT, ltA, ltC, ltV]; try omega)) (res1 (resT rfl) rfl) ?_⟩
    congr 1; omega
theorem bld25_0_1_2 (v0 : Value) (v1 : Value) (v2 : Value) (h0 : oneV v0 = true) (h1 : oneV v1 = true) (h2 : oneV v2 = true) : cBuild Try.prog 25 [(0, v0), (1, v1), (2, v2)] = some (.agg #[v0, v1, v2]) := by
  simp [cBuild, t25, t3, fieldsOk, placesC, fillC, konst0, putC, (oneV_cells h0).1, (oneV_cells h1).1, (oneV_cells h2).1]
theorem bld25_ : cBuild Try.prog 25 [] = some (.agg #[.int .i64 0, .int .i64 0, .int .i64 0]) := by
  simp [cBuild, t25, t3, fieldsOk, placesC, fillC, konst0, putC]
theorem spec_l9Piece_s (b : Nat) (ro : Bool) (ps : List C) (H : Heap) (n : Nat) (hb : H b = some (.cells ro (flat ps))) (hlen : ps.length ≤ 1048576) : Fn Try.prog 58 [.slice (some ⟨b, 0, none⟩) ps.length 3] H n (.bool (pieceB ps)) (H) (n) := by
  refine Fn.intro' Try.func58 rfl (by kernel_rfl) Try.ntmps58 (by simp) (by omega) fun hfresh => ?_
  have lt_hb := lt_fresh hfresh hb
  show W _ _ _ ⟨[(0, _)], _, _⟩ _
  refine W.sR [0] fun K hK => ?_
  refine st rfl rfl (e_assign rfl) ?_
  refine stEnd (hK _ [(0, _)] _ _ rfl ?_)
  clear hK K
  refine W.seq ?_
  refine W.sR [0, 9] fun K hK => ?_
  refine st rfl rfl (e_move rfl) ?_
  refine st rfl rfl (e_len t22 rfl) ?_
  refine stC rfl rfl rfl (spec_l1In_s _ _ _ _ _ ) ?_
  refine st rfl rfl (e_not rfl) ?_
  refine stB (fun h15 => ?_) (fun h15 => ?_)
  ·
    try simp only [decide_eq_true_eq, decide_eq_false_iff_not, Bool.not_eq_true', Bool.not_eq_false', Bool.not_eq_true, Bool.not_eq_false] at h15
    refine stEnd (hK _ [(0, _), (9, _)] _ _ rfl ?_)
    clear hK K
    refine W.condT rfl ?_
    refine W.sR [2] fun K hK => ?_
    refine st rfl rfl (e_assign rfl) ?_
    refine stEnd (hK _ [(2, _)] _ _ rfl ?_)
    clear hK K
    refine W.ret ?_
    refine thenR ?_
    refine ⟨.inr rfl, Ends.v0 (by repeat (first | exact self_old | assumption | refine set_old ?_ (by omega) | refine keep_old (by assumption) ?_ (by omega) (by simp; try omega))) hfresh (by first | rfl | (simp [ltT, ltA, ltC, ltV]; try omega)) (res1 (resT rfl) rfl) ?_⟩
    first | rfl | rw [within_15n h15] | rw [pieceB_no (i := i) (by omega) (pOk_no1 (in3_no (by omega) hk0))] | first | rw [within_15n h15] | rw [pieceB_no (i := i) (by omega) (by first | exact pOk_no1 (by assumption) | exact pOk_no2 (by omega) (by assumption) | exact pOk_no3 (by omega) (by assumption))]
  ·
    try simp only [decide_eq_true_eq, decide_eq_false_iff_not, Bool.not_eq_true', Bool.not_eq_false', Bool.not_eq_true, Bool.not_eq_false] at h15
    have h1 := within_15 h15
    refine stEnd (hK _ [(0, _), (9, _)] _ _ rfl ?_)
    clear hK K
    refine W.condF rfl ?_
    refine W.skip ?_
    refine thenN ?_
    refine W.sR [0, 3] fun K hK => ?_
    refine st rfl rfl (e_build rfl rfl (bld25_0_1_2 _ _ _ rfl rfl rfl)) ?_
    refine st rfl rfl (e_alloc t25 rfl) ?_
    refine stN rfl (e_storeA t25 rfl rfl (by repeat (first | exact look_same | assumption | refine look_ne (by omega) ?_ | refine look_keep (by assumption) (by omega) (by simp; try omega) ?_)) rfl rfl rfl (by decide)) ?_
    refine stEnd (hK _ [(0, _), (3, _)] _ _ rfl ?_)
    clear hK K
    refine W.seq ?_
    refine W.sR [0, 3, 4] fun K hK => ?_
    refine st rfl rfl (e_assign rfl) ?_
    refine stEnd (hK _ [(0, _), (3, _), (4, _)] _ _ rfl ?_)
    clear hK K
    refine W.block ?_
    refine W.ord [4, 0, 3] (ts' := [(4, _)] ++ [(0, _), (3, _)]) rfl ?_
    refine W.loopC [(4, _)] [n] (fun κ V G0 μ0 => ∃ i : Nat, V = [(4, .int .i64 (i : Nat))] ∧ κ = ps.length - i ∧ (i ≤ ps.length) ∧ (∀ j, j < i → pOk ps j = true) ∧ (G0 n = some (.cells false (tri (lstC ps i))))) _ ⟨0, rfl, rfl, (by first | omega | assumption | rfl | simp_all), (fun j hj => absurd hj (by omega)), (by rw [lstC_zero]; exact (by repeat (first | exact look_same | assumption | refine look_ne (by omega) ?_ | refine look_keep (by assumption) (by omega) (by simp; try omega) ?_)))⟩ fun κ V G0 μ0 hinv hμ0 hkeep0 hfr0 => ?_
    obtain ⟨i, rfl, rfl, hi, hq, hl⟩ := hinv
    refine W.seq ?_
    refine W.sR [0, 3, 4, 14] fun K hK => ?_
    refine st rfl rfl (e_move rfl) ?_
    refine st rfl rfl (e_move rfl) ?_
    refine st rfl rfl (e_len t22 rfl) ?_
    refine st rfl rfl (e_lss rfl rfl) ?_
    refine stB (fun hb2 => ?_) (fun hb2 => ?_)
    ·
      try simp only [decide_eq_true_eq, decide_eq_false_iff_not, Bool.not_eq_true', Bool.not_eq_false', Bool.not_eq_true, Bool.not_eq_false] at hb2
      refine stEnd (hK _ [(0, _), (3, _), (4, _), (14, _)] _ _ rfl ?_)
      clear hK K
      refine W.condT rfl ?_
      refine W.skip ?_
      refine thenN ?_
      refine W.seq ?_
      refine W.block ?_
      refine W.seq ?_
      refine W.sR [0, 3, 4, 5] fun K hK => ?_
      refine st rfl rfl (e_assign rfl) ?_
      refine stEnd (hK _ [(0, _), (3, _), (4, _), (5, _)] _ _ rfl ?_)
      clear hK K
      refine W.block ?_
      refine W.ord [5, 0, 3, 4] (ts' := [(5, _)] ++ [(0, _), (3, _), (4, _)]) rfl ?_
      refine W.loopC [(5, _)] [n] (fun κ V G1 μ1 => ∃ k : Nat, V = [(5, .int .i64 (k : Nat))] ∧ κ = 3 - k ∧ (k ≤ 3) ∧ (∀ j, j < k → within (ci (at3 ps i) j) 0 3 = true) ∧ (G1 n = some (.cells false (tri (mixC (lstC ps i) (minC (lstC ps i) (at3 ps i)) k))))) _ ⟨0, rfl, rfl, (by first | omega | assumption | rfl | simp_all), (fun j hj => absurd hj (by omega)), (by rw [mix_zero]; exact hl)⟩ fun κ V G1 μ1 hinv hμ1 hkeep1 hfr1 => ?_
      obtain ⟨k, rfl, rfl, hk, hw, hl2⟩ := hinv
      refine W.seq ?_
      refine W.sR [0, 3, 4, 5, 18] fun K hK => ?_
      refine st rfl rfl (e_move rfl) ?_
      refine st rfl rfl (e_lss rfl rfl) ?_
      refine stB (fun hb3 => ?_) (fun hb3 => ?_)
      ·
        try simp only [decide_eq_true_eq, decide_eq_false_iff_not, Bool.not_eq_true', Bool.not_eq_false', Bool.not_eq_true, Bool.not_eq_false] at hb3
        refine stEnd (hK _ [(0, _), (3, _), (4, _), (5, _), (18, _)] _ _ rfl ?_)
        clear hK K
        refine W.condT rfl ?_
        refine W.skip ?_
        refine thenN ?_
        refine W.seq ?_
        refine W.block ?_
        refine W.seq ?_
        refine W.sR [0, 3, 4, 5, 28] fun K hK => ?_
        refine st rfl rfl (e_move rfl) ?_
        refine st rfl rfl (e_move rfl) ?_
        refine st rfl rfl (e_move rfl) ?_
        refine st rfl rfl (e_idxSK _ t22 t25 rfl rfl rfl (by first | omega | decide)) ?_
        refine st rfl rfl (e_idxAK _ t25 t3 rfl rfl rfl (by first | omega | decide)) ?_
        refine st rfl rfl (e_load1 t3 rfl rfl (by repeat (first | exact look_same | assumption | refine look_ne (by omega) ?_ | refine look_keep (by assumption) (by omega) (by simp; try omega) ?_)) (by first | exact (flat_get (by omega) (by omega)).trans rfl | exact flat_getJ (by omega) (by omega))) ?_
        refine stC rfl rfl rfl (spec_l1In_s _ _ _ _ _ ) ?_
        refine st rfl rfl (e_not rfl) ?_
        refine stB (fun hk0 => ?_) (fun hk0 => ?_)
        ·
          try simp only [decide_eq_true_eq, decide_eq_false_iff_not, Bool.not_eq_true', Bool.not_eq_false', Bool.not_eq_true, Bool.not_eq_false] at hk0
          refine stEnd (hK _ [(0, _), (3, _), (4, _), (5, _), (28, _)] _ _ rfl ?_)
          clear hK K
          refine W.condT rfl ?_
          refine W.sR [2] fun K hK => ?_
          refine st rfl rfl (e_assign rfl) ?_
          refine stEnd (hK _ [(2, _)] _ _ rfl ?_)
          clear hK K
          refine W.ret ?_
          refine thenR ?_
          refine blockR ?_
          refine thenR ?_
          refine thenR ?_
          refine blockR ?_
          refine thenR ?_
          refine blockR ?_
          refine thenR ?_
          refine thenR ?_
          refine blockR ?_
          refine thenR ?_
          refine ⟨.inr rfl, Ends.v0 (by repeat (first | exact self_old | assumption | refine set_old ?_ (by omega) | refine keep_old (by assumption) ?_ (by omega) (by simp; try omega))) hfresh (by first | rfl | (simp [ltT, ltA, ltC, ltV]; try omega)) (res1 (resT rfl) rfl) ?_⟩
          first | rfl | rw [within_15n h15] | rw [pieceB_no (i := i) (by omega) (pOk_no1 (in3_no (by omega) hk0))] | first | rw [within_15n h15] | rw [pieceB_no (i := i) (by omega) (by first | exact pOk_no1 (by assumption) | exact pOk_no2 (by omega) (by assumption) | exact pOk_no3 (by omega) (by assumption))]
        ·
          try simp only [decide_eq_true_eq, decide_eq_false_iff_not, Bool.not_eq_true', Bool.not_eq_false', Bool.not_eq_true, Bool.not_eq_false] at hk0
          refine stEnd (hK _ [(0, _), (3, _), (4, _), (5, _), (28, _)] _ _ rfl ?_)
          clear hK K
          refine W.condF rfl ?_
          refine W.skip ?_
          refine thenN ?_
          refine W.rD [0, 3, 4, 5] [0, 0, 2, 6, 0, 0, 0, 48, 240, 496, 1022, 2047, 4095] (by kernel_rfl) (by kernel_rfl) fun K hK => ?_
          refine dP rfl rfl rfl (e_move rfl) ?_
          refine dP rfl rfl rfl (e_move rfl) ?_
          refine dP rfl rfl rfl (e_idxAK _ t25 t3 rfl rfl rfl (by first | omega | decide)) ?_
          refine dL rfl rfl rfl (by omega) (accB_ok rfl) (e_load1 t3 rfl rfl (by repeat (first | exact look_same | assumption | refine look_ne (by omega) ?_ | refine look_keep (by assumption) (by omega) (by simp; try omega) ?_)) (tri_get (by omega))) ?_
          refine dP rfl rfl rfl (e_move rfl) ?_
          refine dP rfl rfl rfl (e_move rfl) ?_
          refine dP rfl rfl rfl (e_move rfl) ?_
          refine dP rfl rfl rfl (e_idxSK _ t22 t25 rfl rfl rfl (by first | omega | decide)) ?_
          refine dP rfl rfl rfl (e_idxAK _ t25 t3 rfl rfl rfl (by first | omega | decide)) ?_
          refine dL rfl rfl rfl (by omega) (accB_ok rfl) (e_load1 t3 rfl rfl (by repeat (first | exact look_same | assumption | refine look_ne (by omega) ?_ | refine look_keep (by assumption) (by omega) (by simp; try omega) ?_)) (by first | exact (flat_get (by omega) (by omega)).trans rfl | exact flat_getJ (by omega) (by omega))) ?_
          refine dC rfl rfl rfl rfl (spec_l1Least_s _ _ _ _ ) (accB_ok rfl) ?_
          refine dP rfl rfl rfl (e_idxAK _ t25 t3 rfl rfl rfl (by first | omega | decide)) ?_
          refine dSt rfl rfl (e_store1 t3 rfl rfl rfl (by repeat (first | exact look_same | assumption | refine look_ne (by omega) ?_ | refine look_keep (by assumption) (by omega) (by simp; try omega) ?_ | refine look_hide (by omega) (by first | exact List.not_mem_nil | (simp [hidden, Nat.testBit]; done) | (simp [hidden, Nat.testBit]; omega)) ?_)) (by simp [tri]; omega)) (by omega) (by first | exact List.not_mem_nil | (simp [hidden, Nat.testBit]; done) | (simp [hidden, Nat.testBit]; omega)) (accB_ok rfl) ?_
          refine dEnd (hK _ [(0, _), (3, _), (4, _), (5, _)] _ _ rfl ?_)
          clear hK K
          refine blockN ?_
          refine thenN ?_
          refine W.rR [5, 0, 3, 4] fun K hK => ?_
          refine st rfl rfl (e_move rfl) ?_
          refine st rfl rfl (e_add rfl rfl (inB _ (by omega))) ?_
          refine st rfl rfl (e_assign rfl) ?_
          refine stEnd (hK _ [(5, _), (0, _), (3, _), (4, _)] _ _ rfl ?_)
          clear hK K
          exact roundN (V' := [(5, _)]) [5, 0, 3, 4] rfl (by omega) (by repeat (first | exact Keeps.refl _ _ _ | assumption | refine Keeps.trans ?_ (by assumption) (by omega) (by simp; try omega) | refine Keeps.set ?_ (by first | exact Or.inl (by omega) | (simp; done) | (simp; omega)) | refine Keeps.del ?_ (by first | exact Or.inl (by omega) | (simp; done) | (simp; omega)))) _ (by omega) ⟨k + 1, rfl, rfl, (by first | omega | assumption | simp_all), (all_succ hw (by assumption)), (look_same.trans (congrArg some (congrArg (Blk.cells false) (mix_min (by omega)))))⟩
      ·
        try simp only [decide_eq_true_eq, decide_eq_false_iff_not, Bool.not_eq_true', Bool.not_eq_false', Bool.not_eq_true, Bool.not_eq_false] at hb3
        refine stEnd (hK _ [(0, _), (3, _), (4, _), (5, _), (18, _)] _ _ rfl ?_)
        clear hK K
        refine W.condF rfl ?_
        refine W.exit ?_
        refine thenE ?_
        refine thenE ?_
        refine blockX ?_
        refine thenN ?_
        have hin := in3_of (fun j hj => hw j (by omega))
        refine W.sD [0, 3, 4, 55] [0, 1, 3, 7, 7, 23, 63, 127, 7, 7, 775, 1799, 4095, 8191, 16383] (by kernel_rfl) (by kernel_rfl) fun K hK => ?_
        refine dP rfl rfl rfl (e_move rfl) ?_
        refine dP rfl rfl rfl (e_gtr rfl rfl) ?_
        refine dP rfl rfl rfl (e_move rfl) ?_
        refine dB (fun hb5 => ?_) (fun hb5 => ?_)
        ·
          try simp only [decide_eq_true_eq, decide_eq_false_iff_not, Bool.not_eq_true', Bool.not_eq_false', Bool.not_eq_true, Bool.not_eq_false] at hb5
          refine dP rfl rfl rfl (e_move rfl) ?_
          refine dP rfl rfl rfl (e_move rfl) ?_
          refine dP rfl rfl rfl (e_sub rfl rfl (inB _ (by omega))) ?_
          refine dP rfl rfl rfl (e_idxSK (i - 1) t22 t25 rfl rfl (by first | rfl | omega) (by first | omega | decide)) ?_
          refine dL rfl rfl rfl (by omega) (accB_ok rfl) (e_loadP t25 rfl rfl (by repeat (first | exact look_same | assumption | refine look_ne (by omega) ?_ | refine look_keep (by assumption) (by omega) (by simp; try omega) ?_)) (flat_at (by omega))) ?_
          refine dP rfl rfl rfl (e_move rfl) ?_
          refine dP rfl rfl rfl (e_move rfl) ?_
          refine dP rfl rfl rfl (e_idxSK _ t22 t25 rfl rfl rfl (by first | omega | decide)) ?_
          refine dL rfl rfl rfl (by omega) (accB_ok rfl) (e_loadP t25 rfl rfl (by repeat (first | exact look_same | assumption | refine look_ne (by omega) ?_ | refine look_keep (by assumption) (by omega) (by simp; try omega) ?_)) (flat_at (by omega))) ?_
          refine dC rfl rfl rfl rfl (spec_l2Before_s _ _ _ _ ) (accB_ok rfl) ?_
          refine dP rfl rfl rfl (e_not rfl) ?_
          refine dP rfl rfl rfl (e_pickT rfl rfl) ?_
          refine dB (fun hb6 => ?_) (fun hb6 => ?_)
          ·
            try simp only [decide_eq_true_eq, decide_eq_false_iff_not, Bool.not_eq_true', Bool.not_eq_false', Bool.not_eq_true, Bool.not_eq_false] at hb6
            refine dEnd (hK _ [(0, _), (3, _), (4, _), (55, _)] _ _ rfl ?_)
            clear hK K
            refine W.condT rfl ?_
            refine W.sR [2] fun K hK => ?_
            refine st rfl rfl (e_assign rfl) ?_
            refine stEnd (hK _ [(2, _)] _ _ rfl ?_)
            clear hK K
            refine W.ret ?_
            refine blockR ?_
            refine thenR ?_
            refine thenR ?_
            refine blockR ?_
            refine thenR ?_
            refine ⟨.inr rfl, Ends.v0 (by repeat (first | exact self_old | assumption | refine set_old ?_ (by omega) | refine keep_old (by assumption) ?_ (by omega) (by simp; try omega))) hfresh (by first | rfl | (simp [ltT, ltA, ltC, ltV]; try omega)) (res1 (resT rfl) rfl) ?_⟩
            first | rfl | rw [within_15n h15] | rw [pieceB_no (i := i) (by omega) (pOk_no1 (in3_no (by omega) hk0))] | first | rw [within_15n h15] | rw [pieceB_no (i := i) (by omega) (by first | exact pOk_no1 (by assumption) | exact pOk_no2 (by omega) (by assumption) | exact pOk_no3 (by omega) (by assumption))]
          ·
            try simp only [decide_eq_true_eq, decide_eq_false_iff_not, Bool.not_eq_true', Bool.not_eq_false', Bool.not_eq_true, Bool.not_eq_false] at hb6
            refine dEnd (hK _ [(0, _), (3, _), (4, _), (55, _)] _ _ rfl ?_)
            clear hK K
            refine W.condF rfl ?_
            refine W.skip ?_
            refine blockN ?_
            refine thenN ?_
            refine W.rR [4, 0, 3] fun K hK => ?_
            refine st rfl rfl (e_move rfl) ?_
            refine st rfl rfl (e_add rfl rfl (inB _ (by omega))) ?_
            refine st rfl rfl (e_assign rfl) ?_
            refine stEnd (hK _ [(4, _), (0, _), (3, _)] _ _ rfl ?_)
            clear hK K
            exact roundN (V' := [(4, _)]) [4, 0, 3] rfl (by omega) (by repeat (first | exact Keeps.refl _ _ _ | assumption | refine Keeps.trans ?_ (by assumption) (by omega) (by simp; try omega) | refine Keeps.set ?_ (by first | exact Or.inl (by omega) | (simp; done) | (simp; omega)) | refine Keeps.del ?_ (by first | exact Or.inl (by omega) | (simp; done) | (simp; omega)))) _ (by omega) ⟨i + 1, rfl, rfl, (by first | omega | assumption | simp_all), (all_succ hq (by first | exact pOk_yes1 (by assumption) (by omega) | exact pOk_yes2 (by assumption) (by assumption) | exact pOk_yes3 (by assumption) (by assumption))), (by rw [← lstC_succ (by omega), ← mix_end (lstC ps i) (minC (lstC ps i) (at3 ps i)) (show k = 3 by omega)]; exact hl2)⟩
        ·
          try simp only [decide_eq_true_eq, decide_eq_false_iff_not, Bool.not_eq_true', Bool.not_eq_false', Bool.not_eq_true, Bool.not_eq_false] at hb5
          refine dS rfl rfl ?_
          refine dS rfl rfl ?_
          refine dS rfl rfl ?_
          refine dS rfl rfl ?_
          refine dS rfl rfl ?_
          refine dS rfl rfl ?_
          refine dS rfl rfl ?_
          refine dS rfl rfl ?_
          refine dS rfl rfl ?_
          refine dS rfl rfl ?_
          refine dS rfl rfl ?_
          refine dP rfl rfl rfl (e_pickF rfl rfl) ?_
          refine dEnd (hK _ [(0, _), (3, _), (4, _), (55, _)] _ _ rfl ?_)
          clear hK K
          refine W.condF rfl ?_
          refine W.skip ?_
          refine blockN ?_
          refine thenN ?_
          refine W.rR [4, 0, 3] fun K hK => ?_
          refine st rfl rfl (e_move rfl) ?_
          refine st rfl rfl (e_add rfl rfl (inB _ (by omega))) ?_
          refine st rfl rfl (e_assign rfl) ?_
          refine stEnd (hK _ [(4, _), (0, _), (3, _)] _ _ rfl ?_)
          clear hK K
          exact roundN (V' := [(4, _)]) [4, 0, 3] rfl (by omega) (by repeat (first | exact Keeps.refl _ _ _ | assumption | refine Keeps.trans ?_ (by assumption) (by omega) (by simp; try omega) | refine Keeps.set ?_ (by first | exact Or.inl (by omega) | (simp; done) | (simp; omega)) | refine Keeps.del ?_ (by first | exact Or.inl (by omega) | (simp; done) | (simp; omega)))) _ (by omega) ⟨i + 1, rfl, rfl, (by first | omega | assumption | simp_all), (all_succ hq (by first | exact pOk_yes1 (by assumption) (by omega) | exact pOk_yes2 (by assumption) (by assumption) | exact pOk_yes3 (by assumption) (by assumption))), (by rw [← lstC_succ (by omega), ← mix_end (lstC ps i) (minC (lstC ps i) (at3 ps i)) (show k = 3 by omega)]; exact hl2)⟩
    ·
      try simp only [decide_eq_true_eq, decide_eq_false_iff_not, Bool.not_eq_true', Bool.not_eq_false', Bool.not_eq_true, Bool.not_eq_false] at hb2
      refine stEnd (hK _ [(0, _), (3, _), (4, _), (14, _)] _ _ rfl ?_)
      clear hK K
      refine W.condF rfl ?_
      refine W.exit ?_
      refine thenE ?_
      refine thenE ?_
      refine blockX ?_
      refine thenN ?_
      obtain rfl : i = ps.length := by omega
      rw [pieceB_fin h1 hq]
      have hll := lst_low hq (ps.length - 1) (by omega)
      rw [show ps.length - 1 + 1 = ps.length by omega] at hll
      rw [hll] at hl
      refine W.sR [2] fun K hK => ?_
      refine st rfl rfl (e_loadA t25 rfl rfl (by repeat (first | exact look_same | assumption | refine look_ne (by omega) ?_ | refine look_keep (by assumption) (by omega) (by simp; try omega) ?_)) rfl rfl) ?_
      refine st rfl rfl (e_build rfl rfl (bld25_ )) ?_
      refine st rfl rfl (e_eqA3 (a := lowN ps ps.length) (b := (0, 0, 0)) t25 t3 rfl rfl) ?_
      refine st rfl rfl (e_assign rfl) ?_
      refine stEnd (hK _ [(2, _)] _ _ rfl ?_)
      clear hK K
      refine W.ret ?_
      refine ⟨.inr rfl, Ends.v0 (by repeat (first | exact self_old | assumption | refine set_old ?_ (by omega) | refine keep_old (by assumption) ?_ (by omega) (by simp; try omega))) hfresh (by first | rfl | (simp [ltT, ltA, ltC, ltV]; try omega)) (res1 (resT rfl) rfl) ?_⟩
      first | rfl | rw [within_15n h15] | rw [pieceB_no (i := i) (by omega) (pOk_no1 (in3_no (by omega) hk0))] | first | rw [within_15n h15] | rw [pieceB_no (i := i) (by omega) (by first | exact pOk_no1 (by assumption) | exact pOk_no2 (by omega) (by assumption) | exact pOk_no3 (by omega) (by assumption))]
theorem bsl22_0 {H : Heap} {n : Nat} : cBuildSlice Try.prog 22 0 H n [] = some (.slice (some ⟨n, 0, none⟩) 0 3, H.set n (.cells false []), n + 1) := by
  simp [cBuildSlice, t22, t25, fillC, zeros, konst0, putC, Value.cells]
theorem bsl22_1 {H : Heap} {n : Nat} {v0_0 : Value} {v0_1 : Value} {v0_2 : Value} : cBuildSlice Try.prog 22 1 H n [(0, .agg #[v0_0, v0_1, v0_2])] = some (.slice (some ⟨n, 0, none⟩) 1 3, H.set n (.cells false [v0_0, v0_1, v0_2]), n + 1) := by
  simp [cBuildSlice, t22, t25, fillC, zeros, konst0, putC, Value.cells]
theorem spec_l9Moved_s (d : Nat) (ro2 : Bool) (ps : List C) (a : C) (H : Heap) (n : Nat) (hd : H d = some (.cells ro2 (flat ps))) (hp : Piece ps) (ha : (0 ≤ a.1 ∧ a.1 ≤ 3) ∧ (0 ≤ a.2.1 ∧ a.2.1 ≤ 3) ∧ (0 ≤ a.2.2 ∧ a.2.2 ≤ 3)) : Fn Try.prog 113 [.slice (some ⟨d, 0, none⟩) ps.length 3, .agg #[.int .i64 a.1, .int .i64 a.2.1, .int .i64 a.2.2]] H n (.slice (some ⟨n, 0, none⟩) (ps.map fun c => addC c a).length 3) (H.set n (.cells false (flat (ps.map fun c => addC c a)))) (n + 1) := by
  refine Fn.intro' Try.func113 rfl (by kernel_rfl) Try.ntmps113 (by simp) (by omega) fun hfresh => ?_
  have lt_hd := lt_fresh hfresh hd
  have hpl := hp.len
  show W _ _ _ ⟨[(0, _), (1, _)], _, _⟩ _
  refine W.sR [0, 3] fun K hK => ?_
  refine st rfl rfl (e_boxA rfl) ?_
  refine st rfl rfl (e_assign rfl) ?_
  refine stEnd (hK _ [(0, _), (3, _)] _ _ rfl ?_)
  clear hK K
  refine W.sR [0, 3, 5] fun K hK => ?_
  refine st rfl rfl (e_buildSlice rfl rfl (bsl22_0)) ?_
  refine st rfl rfl (e_assign rfl) ?_
  refine stEnd (hK _ [(0, _), (3, _), (5, _)] _ _ rfl ?_)
  clear hK K
  refine W.seq ?_
  refine W.sR [0, 3, 5, 6] fun K hK => ?_
  refine st rfl rfl (e_assign rfl) ?_
  refine stEnd (hK _ [(0, _), (3, _), (5, _), (6, _)] _ _ rfl ?_)
  clear hK K
  refine W.block ?_
  refine W.ord [5, 6, 0, 3] (ts' := [(5, _), (6, _)] ++ [(0, _), (3, _)]) rfl ?_
  refine W.loopC [(5, _), (6, _)] [n + 1] (fun κ V G μ => ∃ i p : Nat, V = [(5, .slice (some ⟨p, 0, none⟩) ((ps.take i).map fun c => addC c a).length 3), (6, .int .i64 (i : Nat))] ∧ κ = ps.length - i ∧ (i ≤ ps.length) ∧ ((p = n + 1 ∨ n + 1 + 1 ≤ p) ∧ p < μ) ∧ (G p = some (.cells false (flat ((ps.take i).map fun c => addC c a))))) _ ⟨0, n + 1, rfl, rfl, (by first | omega | assumption | rfl | simp_all), (by omega), look_same⟩ fun κ V G μ hinv hμ hkeep hfr => ?_
  obtain ⟨i, p, rfl, rfl, hi, hp2, hG⟩ := hinv
  refine W.seq ?_
  refine W.sR [0, 3, 5, 6, 11] fun K hK => ?_
  refine st rfl rfl (e_move rfl) ?_
  refine st rfl rfl (e_move rfl) ?_
  refine st rfl rfl (e_len t22 rfl) ?_
  refine st rfl rfl (e_lss rfl rfl) ?_
  refine stB (fun hb1 => ?_) (fun hb1 => ?_)
  ·
    try simp only [decide_eq_true_eq, decide_eq_false_iff_not, Bool.not_eq_true', Bool.not_eq_false', Bool.not_eq_true, Bool.not_eq_false] at hb1
    refine stEnd (hK _ [(0, _), (3, _), (5, _), (6, _), (11, _)] _ _ rfl ?_)
    clear hK K
    refine W.condT rfl ?_
    refine W.skip ?_
    refine thenN ?_
    refine W.seq ?_
    refine W.block ?_
    have hc3 := in3_bd (hp.in3 i (by omega))
    refine W.rD [0, 3, 5, 6] [0, 0, 0, 6, 14, 30, 0, 64, 254, 0, 0, 1536, 3584, 7680, 0, 16384, 65024, 0, 0, 393216, 917504, 1966080, 0, 4194304, 16646144, 33554430, 67108862, 134217727, 268435455] (by kernel_rfl) (by kernel_rfl) fun K hK => ?_
    refine dP rfl rfl rfl (e_move rfl) ?_
    refine dP rfl rfl rfl (e_move rfl) ?_
    refine dP rfl rfl rfl (e_move rfl) ?_
    refine dP rfl rfl rfl (e_idxSK _ t22 t25 rfl rfl rfl (by first | omega | decide)) ?_
    refine dP rfl rfl rfl (e_idxAK (0) t25 t3 rfl rfl (by first | rfl | omega) (by first | omega | decide)) ?_
    refine dL rfl rfl rfl (by omega) (accB_ok rfl) (e_load1 t3 rfl rfl (by repeat (first | exact look_same | assumption | refine look_ne (by omega) ?_ | refine look_del (by omega) ?_ | refine look_keep (by assumption) (by omega) (by simp; try omega) ?_)) (by first | exact (flat_get (by omega) (by omega)).trans rfl | exact flat_getJ (by omega) (by omega))) ?_
    refine dP rfl rfl rfl (e_idxAK (0) t25 t3 rfl rfl (by first | rfl | omega) (by first | omega | decide)) ?_
    refine dL rfl rfl rfl (by omega) (accB_ok rfl) (e_load1 t3 rfl rfl (by repeat (first | exact look_same | assumption | refine look_ne (by omega) ?_ | refine look_del (by omega) ?_ | refine look_keep (by assumption) (by omega) (by simp; try omega) ?_)) (by first | rfl | exact tri_getL (by omega))) ?_
    refine dP rfl rfl rfl (e_add rfl rfl (inB _ (by omega))) ?_
    refine dP rfl rfl rfl (e_move rfl) ?_
    refine dP rfl rfl rfl (e_move rfl) ?_
    refine dP rfl rfl rfl (e_idxSK _ t22 t25 rfl rfl rfl (by first | omega | decide)) ?_
    refine dP rfl rfl rfl (e_idxAK (1) t25 t3 rfl rfl (by first | rfl | omega) (by first | omega | decide)) ?_
    refine dL rfl rfl rfl (by omega) (accB_ok rfl) (e_load1 t3 rfl rfl (by repeat (first | exact look_same | assumption | refine look_ne (by omega) ?_ | refine look_del (by omega) ?_ | refine look_keep (by assumption) (by omega) (by simp; try omega) ?_)) (by first | exact (flat_get (by omega) (by omega)).trans rfl | exact flat_getJ (by omega) (by omega))) ?_
    refine dP rfl rfl rfl (e_idxAK (1) t25 t3 rfl rfl (by first | rfl | omega) (by first | omega | decide)) ?_
    refine dL rfl rfl rfl (by omega) (accB_ok rfl) (e_load1 t3 rfl rfl (by repeat (first | exact look_same | assumption | refine look_ne (by omega) ?_ | refine look_del (by omega) ?_ | refine look_keep (by assumption) (by omega) (by simp; try omega) ?_)) (by first | rfl | exact tri_getL (by omega))) ?_
    refine dP rfl rfl rfl (e_add rfl rfl (inB _ (by omega))) ?_
    refine dP rfl rfl rfl (e_move rfl) ?_
    refine dP rfl rfl rfl (e_move rfl) ?_
    refine dP rfl rfl rfl (e_idxSK _ t22 t25 rfl rfl rfl (by first | omega | decide)) ?_
    refine dP rfl rfl rfl (e_idxAK (2) t25 t3 rfl rfl (by first | rfl | omega) (by first | omega | decide)) ?_
    refine dL rfl rfl rfl (by omega) (accB_ok rfl) (e_load1 t3 rfl rfl (by repeat (first | exact look_same | assumption | refine look_ne (by omega) ?_ | refine look_del (by omega) ?_ | refine look_keep (by assumption) (by omega) (by simp; try omega) ?_)) (by first | exact (flat_get (by omega) (by omega)).trans rfl | exact flat_getJ (by omega) (by omega))) ?_
    refine dP rfl rfl rfl (e_idxAK (2) t25 t3 rfl rfl (by first | rfl | omega) (by first | omega | decide)) ?_
    refine dL rfl rfl rfl (by omega) (accB_ok rfl) (e_load1 t3 rfl rfl (by repeat (first | exact look_same | assumption | refine look_ne (by omega) ?_ | refine look_del (by omega) ?_ | refine look_keep (by assumption) (by omega) (by simp; try omega) ?_)) (by first | rfl | exact tri_getL (by omega))) ?_
    refine dP rfl rfl rfl (e_add rfl rfl (inB _ (by omega))) ?_
    refine dP rfl rfl rfl (e_build rfl rfl (bld25_0_1_2 _ _ _ rfl rfl rfl)) ?_
    refine dN rfl rfl rfl (e_buildSlice rfl rfl (bsl22_1)) ?_
    refine dA rfl rfl rfl rfl (app_any t22 t22 t25 rfl rfl (by repeat (first | exact look_same | assumption | refine look_ne (by omega) ?_ | refine look_del (by omega) ?_ | refine look_keep (by assumption) (by omega) (by simp; try omega) ?_ | refine look_hide (by omega) (by first | exact List.not_mem_nil | (simp [hidden, Nat.testBit]; done) | (simp [hidden, Nat.testBit]; omega)) ?_)) (take_row (m := 1) (by repeat (first | exact look_same | assumption | refine look_ne (by omega) ?_ | refine look_del (by omega) ?_ | refine look_keep (by assumption) (by omega) (by simp; try omega) ?_ | refine look_hide (by omega) (by first | exact List.not_mem_nil | (simp [hidden, Nat.testBit]; done) | (simp [hidden, Nat.testBit]; omega)) ?_)) rfl) (by decide) (flat_length _) (by first | rfl | (simp [flat_length]; done) | (simp [flat_length]; omega)) (by simp; omega) (by omega)) (by omega) (by first | exact List.not_mem_nil | (simp [hidden, Nat.testBit]; done) | (simp [hidden, Nat.testBit]; omega)) (by first | exact List.not_mem_nil | (simp [hidden, Nat.testBit]; done) | (simp [hidden, Nat.testBit]; omega)) (fun n' => (accB_ok rfl)) (fun p7 G7 n7 hp7 hk7 hn7 hl7 hb7 => ?_)
    refine dP rfl rfl rfl (e_assign rfl) ?_
    refine dEnd (hK _ [(0, _), (3, _), (5, _), (6, _)] _ _ rfl ?_)
    clear hK K
    refine blockN ?_
    refine thenN ?_
    refine W.rR [5, 6, 0, 3] fun K hK => ?_
    refine st rfl rfl (e_move rfl) ?_
    refine st rfl rfl (e_add rfl rfl (inB _ (by omega))) ?_
    refine st rfl rfl (e_assign rfl) ?_
    refine stEnd (hK _ [(5, _), (6, _), (0, _), (3, _)] _ _ rfl ?_)
    clear hK K
    exact roundN (V' := [(5, _), (6, _)]) [5, 6, 0, 3] rfl (by omega) (by repeat (first | exact Keeps.refl _ _ _ | assumption | refine Keeps.trans ?_ (by assumption) (by omega) (by simp; try omega) | refine Keeps.set ?_ (by first | exact Or.inl (by omega) | (simp; done) | (simp; omega)) | refine Keeps.del ?_ (by first | exact Or.inl (by omega) | (simp; done) | (simp; omega)))) _ (by omega) ⟨i + 1, p7, (by rw [take_succ3 (by omega)]; simp), rfl, (by first | omega | assumption | simp_all), (by omega), (hp7.trans (congrArg some (congrArg (Blk.cells false) (by rw [take_succ3 (by omega), List.map_append]; exact flat_snoc _ (addC (at3 ps i) a)))))⟩
  ·
    try simp only [decide_eq_true_eq, decide_eq_false_iff_not, Bool.not_eq_true', Bool.not_eq_false', Bool.not_eq_true, Bool.not_eq_false] at hb1
    refine stEnd (hK _ [(0, _), (3, _), (5, _), (6, _), (11, _)] _ _ rfl ?_)
    clear hK K
    refine W.condF rfl ?_
    refine W.exit ?_
    refine thenE ?_
    refine thenE ?_
    refine blockX ?_
    refine thenN ?_
    refine W.sR [4] fun K hK => ?_
    refine st rfl rfl (e_move rfl) ?_
    refine st rfl rfl (e_assign rfl) ?_
    refine stEnd (hK _ [(4, _)] _ _ rfl ?_)
    clear hK K
    refine W.ret ?_
    refine ⟨.inr rfl, Ends.v1 (p) (by omega) (by repeat (first | exact self_old | assumption | refine set_old ?_ (by omega) | refine del_old ?_ (by omega) | refine keep_old (by assumption) ?_ (by omega) (by simp; try omega))) hfresh (by repeat (first | exact look_same | assumption | refine look_ne (by omega) ?_ | refine look_del (by omega) ?_ | refine look_keep (by assumption) (by omega) (by simp; try omega) ?_)) ?_ (by first | exact flat_plain _ | exact ints_plain _) (by simp [ltT, ltA, ltC, ltV]; try omega) (res1 (resT rfl) rfl) ?_⟩
    · (obtain rfl : i = ps.length := by omega); rw [List.take_length]
    · (obtain rfl : i = ps.length := by omega); simp [renT, renV, renC, renA, one]
theorem spec_l2Has_s (X Y Z : Int) (b : Nat) (ro : Bool) (cs : List C) (c : C) (H : Heap) (n : Nat) (hb : H b = some (.cells ro (flat cs))) (hlen : cs.length ≤ 1048576) : Fn Try.prog 114 [.agg #[.int .i64 X, .int .i64 Y, .int .i64 Z, .slice (some ⟨b, 0, none⟩) cs.length 3], .agg #[.int .i64 c.1, .int .i64 c.2.1, .int .i64 c.2.2]] H n (.bool (decide (c ∈ cs))) (H) (n) := by
  refine Fn.intro' Try.func114 rfl (by kernel_rfl) Try.ntmps114 (by simp) (by omega) fun hfresh => ?_
  have lt_hb := lt_fresh hfresh hb
  show W _ _ _ ⟨[(0, _), (1, _)], _, _⟩ _
  refine W.sR [2, 3] fun K hK => ?_
  refine st rfl rfl (e_boxA rfl) ?_
  refine st rfl rfl (e_boxA rfl) ?_
  refine st rfl rfl (e_assign rfl) ?_
  refine stEnd (hK _ [(2, _), (3, _)] _ _ rfl ?_)
  clear hK K
  refine W.seq ?_
  refine W.sR [2, 3, 5] fun K hK => ?_
  refine st rfl rfl (e_assign rfl) ?_
  refine stEnd (hK _ [(2, _), (3, _), (5, _)] _ _ rfl ?_)
  clear hK K
  refine W.block ?_
  refine W.ord [5, 2, 3] (ts' := [(5, _)] ++ [(2, _), (3, _)]) rfl ?_
  refine W.loopC [(5, _)] [] (fun κ V G μ => ∃ i : Nat, V = [(5, .int .i64 (i : Nat))] ∧ κ = cs.length - i ∧ (i ≤ cs.length) ∧ (∀ j, j < i → ¬ at3 cs j = c)) _ ⟨0, rfl, rfl, (by first | omega | assumption | rfl | simp_all), (fun j hj => absurd hj (by omega))⟩ fun κ V G μ hinv hμ hkeep hfr => ?_
  obtain ⟨i, rfl, rfl, hi, hq⟩ := hinv
  refine W.seq ?_
  refine W.sR [2, 3, 5, 10] fun K hK => ?_
  refine st rfl rfl (e_move rfl) ?_
  refine st rfl rfl (e_fieldAddr t30 t22 rfl rfl) ?_
  refine st rfl rfl (e_load1 t22 rfl rfl (by repeat (first | exact look_same | assumption | refine look_ne (by omega) ?_ | refine look_keep (by assumption) (by omega) (by simp; try omega) ?_)) rfl) ?_
  refine st rfl rfl (e_len t22 rfl) ?_
  refine st rfl rfl (e_lss rfl rfl) ?_
  refine stB (fun hb1 => ?_) (fun hb1 => ?_)
  ·
    try simp only [decide_eq_true_eq, decide_eq_false_iff_not, Bool.not_eq_true', Bool.not_eq_false', Bool.not_eq_true, Bool.not_eq_false] at hb1
    refine stEnd (hK _ [(2, _), (3, _), (5, _), (10, _)] _ _ rfl ?_)
    clear hK K
    refine W.condT rfl ?_
    refine W.skip ?_
    refine thenN ?_
    refine W.seq ?_
    refine W.block ?_
    refine W.sD [2, 3, 5, 19] [0, 1, 0, 7, 15, 0, 63] (by kernel_rfl) (by kernel_rfl) fun K hK => ?_
    refine dP rfl rfl rfl (e_fieldAddr t30 t22 rfl rfl) ?_
    refine dL rfl rfl rfl (by omega) (accB_ok rfl) (e_load1 t22 rfl rfl (by repeat (first | exact look_same | assumption | refine look_ne (by omega) ?_ | refine look_keep (by assumption) (by omega) (by simp; try omega) ?_)) rfl) ?_
    refine dP rfl rfl rfl (e_move rfl) ?_
    refine dP rfl rfl rfl (e_idxSK _ t22 t25 rfl rfl rfl (by first | omega | decide)) ?_
    refine dL rfl rfl rfl (by omega) (accB_ok rfl) (e_loadP t25 rfl rfl (by repeat (first | exact look_same | assumption | refine look_ne (by omega) ?_ | refine look_keep (by assumption) (by omega) (by simp; try omega) ?_)) (flat_at (by omega))) ?_
    refine dL rfl rfl rfl (by omega) (accB_ok rfl) (e_loadA t25 rfl rfl (by repeat (first | exact look_same | assumption | refine look_ne (by omega) ?_ | refine look_keep (by assumption) (by omega) (by simp; try omega) ?_)) rfl rfl) ?_
    refine dP rfl rfl rfl (e_eqA3 t25 t3 rfl rfl) ?_
    refine dB (fun hz => ?_) (fun hz => ?_)
    ·
      try simp only [decide_eq_true_eq, decide_eq_false_iff_not, Bool.not_eq_true', Bool.not_eq_false', Bool.not_eq_true, Bool.not_eq_false] at hz
      refine dEnd (hK _ [(2, _), (3, _), (5, _), (19, _)] _ _ rfl ?_)
      clear hK K
      refine W.condT rfl ?_
      refine W.sR [4] fun K hK => ?_
      refine st rfl rfl (e_assign rfl) ?_
      refine stEnd (hK _ [(4, _)] _ _ rfl ?_)
      clear hK K
      refine W.ret ?_
      refine blockR ?_
      refine thenR ?_
      refine thenR ?_
      refine blockR ?_
      refine thenR ?_
      refine ⟨.inr rfl, Ends.v0 (by repeat (first | exact self_old | assumption | refine set_old ?_ (by omega) | refine keep_old (by assumption) ?_ (by omega) (by simp; try omega))) hfresh (by first | rfl | (simp [ltT, ltA, ltC, ltV]; try omega)) (res1 (resT rfl) rfl) ?_⟩
      first | rw [has_yes (i := i) (by omega) hz] | rw [has_no (fun j hj => hq j (by omega))]
    ·
      try simp only [decide_eq_true_eq, decide_eq_false_iff_not, Bool.not_eq_true', Bool.not_eq_false', Bool.not_eq_true, Bool.not_eq_false] at hz
      refine dEnd (hK _ [(2, _), (3, _), (5, _), (19, _)] _ _ rfl ?_)
      clear hK K
      refine W.condF rfl ?_
      refine W.skip ?_
      refine blockN ?_
      refine thenN ?_
      refine W.rR [5, 2, 3] fun K hK => ?_
      refine st rfl rfl (e_move rfl) ?_
      refine st rfl rfl (e_add rfl rfl (inB _ (by omega))) ?_
      refine st rfl rfl (e_assign rfl) ?_
      refine stEnd (hK _ [(5, _), (2, _), (3, _)] _ _ rfl ?_)
      clear hK K
      exact roundN (V' := [(5, _)]) [5, 2, 3] rfl (by omega) (by repeat (first | exact Keeps.refl _ _ _ | assumption | refine Keeps.trans ?_ (by assumption) (by omega) (by simp; try omega) | refine Keeps.set ?_ (by first | exact Or.inl (by omega) | (simp; done) | (simp; omega)) | refine Keeps.del ?_ (by first | exact Or.inl (by omega) | (simp; done) | (simp; omega)))) _ (by omega) ⟨i + 1, rfl, rfl, (by first | omega | assumption | simp_all), (all_succ hq hz)⟩
  ·
    try simp only [decide_eq_true_eq, decide_eq_false_iff_not, Bool.not_eq_true', Bool.not_eq_false', Bool.not_eq_true, Bool.not_eq_false] at hb1
    refine stEnd (hK _ [(2, _), (3, _), (5, _), (10, _)] _ _ rfl ?_)
    clear hK K
    refine W.condF rfl ?_
    refine W.exit ?_
    refine thenE ?_
    refine thenE ?_
    refine blockX ?_
    refine thenN ?_
    refine W.sR [4] fun K hK => ?_
    refine st rfl rfl (e_assign rfl) ?_
    refine stEnd (hK _ [(4, _)] _ _ rfl ?_)
    clear hK K
    refine W.ret ?_
    refine ⟨.inr rfl, Ends.v0 (by repeat (first | exact self_old | assumption | refine set_old ?_ (by omega) | refine keep_old (by assumption) ?_ (by omega) (by simp; try omega))) hfresh (by first | rfl | (simp [ltT, ltA, ltC, ltV]; try omega)) (res1 (resT rfl) rfl) ?_⟩
    first | rw [has_yes (i := i) (by omega) hz] | rw [has_no (fun j hj => hq j (by omega))]
theorem spec_l9Fits_s (X Y Z : Int) (b : Nat) (ro : Bool) (cs : List C) (d : Nat) (ro2 : Bool) (ps : List C) (a : C) (H : Heap) (n : Nat) (hb : H b = some (.cells ro (flat cs))) (hlen : cs.length ≤ 1048576) (hX : (1 ≤ X ∧ X ≤ 4) ∧ (1 ≤ Y ∧ Y ≤ 4) ∧ (1 ≤ Z ∧ Z ≤ 4)) (hd : H d = some (.cells ro2 (flat ps))) (hp : Piece ps) : Fn Try.prog 59 [.agg #[.int .i64 X, .int .i64 Y, .int .i64 Z, .slice (some ⟨b, 0, none⟩) cs.length 3], .slice (some ⟨d, 0, none⟩) ps.length 3, .agg #[.int .i64 a.1, .int .i64 a.2.1, .int .i64 a.2.2]] H n (.bool (fitAt X Y Z cs ps a)) (H) (n) := by
  refine Fn.intro' Try.func59 rfl (by kernel_rfl) Try.ntmps59 (by simp) (by omega) fun hfresh => ?_
  have lt_hb := lt_fresh hfresh hb
  have lt_hd := lt_fresh hfresh hd
  have hpl := hp.len
  have hml : (ps.map fun c => addC c a).length = ps.length := by simp
  show W _ _ _ ⟨[(0, _), (1, _), (2, _)], _, _⟩ _
  refine W.sR [1, 3, 5] fun K hK => ?_
  refine st rfl rfl (e_boxA rfl) ?_
  refine st rfl rfl (e_boxA rfl) ?_
  refine st rfl rfl (e_assign rfl) ?_
  refine stEnd (hK _ [(1, _), (3, _), (5, _)] _ _ rfl ?_)
  clear hK K
  refine W.seq ?_
  refine W.sR [1, 3, 5, 7] fun K hK => ?_
  refine st rfl rfl (e_assign rfl) ?_
  refine stEnd (hK _ [(1, _), (3, _), (5, _), (7, _)] _ _ rfl ?_)
  clear hK K
  refine W.block ?_
  refine W.ord [7, 1, 3, 5] (ts' := [(7, _)] ++ [(1, _), (3, _), (5, _)]) rfl ?_
  refine W.loopC [(7, _)] [] (fun κ V G0 μ0 => ∃ k : Nat, V = [(7, .int .i64 (k : Nat))] ∧ κ = 3 - k ∧ (k ≤ 3) ∧ (∀ j, j < k → within (ci a j) 0 3 = true)) _ ⟨0, rfl, rfl, (by first | omega | assumption | rfl | simp_all), (fun j hj => absurd hj (by omega))⟩ fun κ V G0 μ0 hinv hμ0 hkeep0 hfr0 => ?_
  obtain ⟨k, rfl, rfl, hk, hq⟩ := hinv
  refine W.seq ?_
  refine W.sR [1, 3, 5, 7, 11] fun K hK => ?_
  refine st rfl rfl (e_move rfl) ?_
  refine st rfl rfl (e_lss rfl rfl) ?_
  refine stB (fun hb1 => ?_) (fun hb1 => ?_)
  ·
    try simp only [decide_eq_true_eq, decide_eq_false_iff_not, Bool.not_eq_true', Bool.not_eq_false', Bool.not_eq_true, Bool.not_eq_false] at hb1
    refine stEnd (hK _ [(1, _), (3, _), (5, _), (7, _), (11, _)] _ _ rfl ?_)
    clear hK K
    refine W.condT rfl ?_
    refine W.skip ?_
    refine thenN ?_
    refine W.seq ?_
    refine W.block ?_
    refine W.sR [1, 3, 5, 7, 18] fun K hK => ?_
    refine st rfl rfl (e_move rfl) ?_
    refine st rfl rfl (e_idxAK _ t25 t3 rfl rfl rfl (by first | omega | decide)) ?_
    refine st rfl rfl (e_load1 t3 rfl rfl (by repeat (first | exact look_same | assumption | refine look_ne (by omega) ?_ | refine look_keep (by assumption) (by omega) (by simp; try omega) ?_)) (by first | rfl | exact tri_getL (by omega))) ?_
    refine stC rfl rfl rfl (spec_l1In_s _ _ _ _ _ ) ?_
    refine st rfl rfl (e_not rfl) ?_
    refine stB (fun hk0 => ?_) (fun hk0 => ?_)
    ·
      try simp only [decide_eq_true_eq, decide_eq_false_iff_not, Bool.not_eq_true', Bool.not_eq_false', Bool.not_eq_true, Bool.not_eq_false] at hk0
      refine stEnd (hK _ [(1, _), (3, _), (5, _), (7, _), (18, _)] _ _ rfl ?_)
      clear hK K
      refine W.condT rfl ?_
      refine W.sR [6] fun K hK => ?_
      refine st rfl rfl (e_assign rfl) ?_
      refine stEnd (hK _ [(6, _)] _ _ rfl ?_)
      clear hK K
      refine W.ret ?_
      refine blockR ?_
      refine thenR ?_
      refine thenR ?_
      refine blockR ?_
      refine thenR ?_
      refine ⟨.inr rfl, Ends.v0 (by repeat (first | exact self_old | assumption | refine set_old ?_ (by omega) | refine keep_old (by assumption) ?_ (by omega) (by simp; try omega))) hfresh (by first | rfl | (simp [ltT, ltA, ltC, ltV]; try omega)) (res1 (resT rfl) rfl) ?_⟩
      first | rw [fit_no (in3_no (by omega) hk0)] | rw [fit_3w hin3 (all3_yes (fun j hj => hq2 j (by omega)))] | rw [fit_3w hin3 (all3_no (i := i) (by omega) (fitC_no1 hin))] | rw [fit_3w hin3 (all3_no (i := i) (by omega) (fitC_no2 hocc))]
    ·
      try simp only [decide_eq_true_eq, decide_eq_false_iff_not, Bool.not_eq_true', Bool.not_eq_false', Bool.not_eq_true, Bool.not_eq_false] at hk0
      refine stEnd (hK _ [(1, _), (3, _), (5, _), (7, _), (18, _)] _ _ rfl ?_)
      clear hK K
      refine W.condF rfl ?_
      refine W.skip ?_
      refine blockN ?_
      refine thenN ?_
      refine W.rR [7, 1, 3, 5] fun K hK => ?_
      refine st rfl rfl (e_move rfl) ?_
      refine st rfl rfl (e_add rfl rfl (inB _ (by omega))) ?_
      refine st rfl rfl (e_assign rfl) ?_
      refine stEnd (hK _ [(7, _), (1, _), (3, _), (5, _)] _ _ rfl ?_)
      clear hK K
      exact roundN (V' := [(7, _)]) [7, 1, 3, 5] rfl (by omega) (by repeat (first | exact Keeps.refl _ _ _ | assumption | refine Keeps.trans ?_ (by assumption) (by omega) (by simp; try omega) | refine Keeps.set ?_ (by first | exact Or.inl (by omega) | (simp; done) | (simp; omega)) | refine Keeps.del ?_ (by first | exact Or.inl (by omega) | (simp; done) | (simp; omega)))) _ (by omega) ⟨k + 1, rfl, rfl, (by first | omega | assumption | simp_all), (all_succ hq (by assumption))⟩
  ·
    try simp only [decide_eq_true_eq, decide_eq_false_iff_not, Bool.not_eq_true', Bool.not_eq_false', Bool.not_eq_true, Bool.not_eq_false] at hb1
    refine stEnd (hK _ [(1, _), (3, _), (5, _), (7, _), (11, _)] _ _ rfl ?_)
    clear hK K
    refine W.condF rfl ?_
    refine W.exit ?_
    refine thenE ?_
    refine thenE ?_
    refine blockX ?_
    refine thenN ?_
    have hin3 := in3_of (fun j hj => hq j (by omega))
    have ha := in3_bd hin3
    refine W.sR [3, 8] fun K hK => ?_
    refine st rfl rfl (e_move rfl) ?_
    refine st rfl rfl (e_loadA t25 rfl rfl (by repeat (first | exact look_same | assumption | refine look_ne (by omega) ?_ | refine look_keep (by assumption) (by omega) (by simp; try omega) ?_)) rfl rfl) ?_
    refine stC rfl rfl rfl (spec_l9Moved_s _ _ _ _ _ _ (by repeat (first | exact look_same | assumption | refine look_ne (by omega) ?_ | refine look_keep (by assumption) (by omega) (by simp; try omega) ?_)) (by assumption) (by assumption)) ?_
    refine st rfl rfl (e_assign rfl) ?_
    refine stEnd (hK _ [(3, _), (8, _)] _ _ rfl ?_)
    clear hK K
    refine W.seq ?_
    refine W.sR [3, 8, 9] fun K hK => ?_
    refine st rfl rfl (e_assign rfl) ?_
    refine stEnd (hK _ [(3, _), (8, _), (9, _)] _ _ rfl ?_)
    clear hK K
    refine W.block ?_
    refine W.ord [9, 3, 8] (ts' := [(9, _)] ++ [(3, _), (8, _)]) rfl ?_
    refine W.loopC [(9, _)] [] (fun κ V G1 μ1 => ∃ i : Nat, V = [(9, .int .i64 (i : Nat))] ∧ κ = ps.length - i ∧ (i ≤ ps.length) ∧ (∀ j, j < i → fitC X Y Z cs a (at3 ps j) = true)) _ ⟨0, rfl, rfl, (by first | omega | assumption | rfl | simp_all), (fun j hj => absurd hj (by omega))⟩ fun κ V G1 μ1 hinv hμ1 hkeep1 hfr1 => ?_
    obtain ⟨i, rfl, rfl, hi, hq2⟩ := hinv
    refine W.seq ?_
    refine W.sR [3, 8, 9, 25] fun K hK => ?_
    refine st rfl rfl (e_move rfl) ?_
    refine st rfl rfl (e_move rfl) ?_
    refine st rfl rfl (e_len t22 rfl) ?_
    refine st rfl rfl (e_lss rfl rfl) ?_
    refine stB (fun hb3 => ?_) (fun hb3 => ?_)
    ·
      try simp only [decide_eq_true_eq, decide_eq_false_iff_not, Bool.not_eq_true', Bool.not_eq_false', Bool.not_eq_true, Bool.not_eq_false] at hb3
      refine stEnd (hK _ [(3, _), (8, _), (9, _), (25, _)] _ _ rfl ?_)
      clear hK K
      refine W.condT rfl ?_
      refine W.skip ?_
      refine thenN ?_
      refine W.seq ?_
      refine W.block ?_
      have hme : at3 (ps.map fun c => addC c a) i = addC (at3 ps i) a := at3_map (by omega)
      refine W.sD [3, 8, 9, 42] [0, 0, 0, 6, 14, 31, 63, 127, 255, 255, 255, 1791, 3839, 8191, 16383] (by kernel_rfl) (by kernel_rfl) fun K hK => ?_
      refine dL rfl rfl rfl (by omega) (accB_ok rfl) (e_loadA t30 rfl rfl (by repeat (first | exact look_same | assumption | refine look_ne (by omega) ?_ | refine look_keep (by assumption) (by omega) (by simp; try omega) ?_)) rfl rfl) ?_
      refine dP rfl rfl rfl (e_move rfl) ?_
      refine dP rfl rfl rfl (e_move rfl) ?_
      refine dP rfl rfl rfl (e_idxSK _ t22 t25 rfl rfl rfl (by first | omega | decide)) ?_
      refine dL rfl rfl rfl (by omega) (accB_ok rfl) (e_loadP t25 rfl rfl (by repeat (first | exact look_same | assumption | refine look_ne (by omega) ?_ | refine look_keep (by assumption) (by omega) (by simp; try omega) ?_)) (flat_at (by omega))) ?_
      rw [hme]
      refine dC rfl rfl rfl rfl (spec_l2In_s _ _ _ _ _ _ _ (by omega)) (accB_ok rfl) ?_
      refine dP rfl rfl rfl (e_not rfl) ?_
      refine dP rfl rfl rfl (e_move rfl) ?_
      refine dB (fun hin => ?_) (fun hin => ?_)
      ·
        try simp only [decide_eq_true_eq, decide_eq_false_iff_not, Bool.not_eq_true', Bool.not_eq_false', Bool.not_eq_true, Bool.not_eq_false] at hin
        refine dS rfl rfl ?_
        refine dS rfl rfl ?_
        refine dS rfl rfl ?_
        refine dS rfl rfl ?_
        refine dS rfl rfl ?_
        refine dS rfl rfl ?_
        refine dP rfl rfl rfl (e_pickT rfl rfl) ?_
        refine dEnd (hK _ [(3, _), (8, _), (9, _), (42, _)] _ _ rfl ?_)
        clear hK K
        refine W.condT rfl ?_
        refine W.sR [6] fun K hK => ?_
        refine st rfl rfl (e_assign rfl) ?_
        refine stEnd (hK _ [(6, _)] _ _ rfl ?_)
        clear hK K
        refine W.ret ?_
        refine blockR ?_
        refine thenR ?_
        refine thenR ?_
        refine blockR ?_
        refine thenR ?_
        refine ⟨.inr rfl, Ends.v0 (by repeat (first | exact self_old | assumption | refine set_old ?_ (by omega) | refine keep_old (by assumption) ?_ (by omega) (by simp; try omega))) hfresh (by first | rfl | (simp [ltT, ltA, ltC, ltV]; try omega)) (res1 (resT rfl) rfl) ?_⟩
        first | rw [fit_no (in3_no (by omega) hk0)] | rw [fit_3w hin3 (all3_yes (fun j hj => hq2 j (by omega)))] | rw [fit_3w hin3 (all3_no (i := i) (by omega) (fitC_no1 hin))] | rw [fit_3w hin3 (all3_no (i := i) (by omega) (fitC_no2 hocc))]
      ·
        try simp only [decide_eq_true_eq, decide_eq_false_iff_not, Bool.not_eq_true', Bool.not_eq_false', Bool.not_eq_true, Bool.not_eq_false] at hin
        refine dL rfl rfl rfl (by omega) (accB_ok rfl) (e_loadA t30 rfl rfl (by repeat (first | exact look_same | assumption | refine look_ne (by omega) ?_ | refine look_keep (by assumption) (by omega) (by simp; try omega) ?_)) rfl rfl) ?_
        refine dP rfl rfl rfl (e_move rfl) ?_
        refine dP rfl rfl rfl (e_move rfl) ?_
        refine dP rfl rfl rfl (e_idxSK _ t22 t25 rfl rfl rfl (by first | omega | decide)) ?_
        refine dL rfl rfl rfl (by omega) (accB_ok rfl) (e_loadP t25 rfl rfl (by repeat (first | exact look_same | assumption | refine look_ne (by omega) ?_ | refine look_keep (by assumption) (by omega) (by simp; try omega) ?_)) (flat_at (by omega))) ?_
        rw [hme]
        refine dC rfl rfl rfl rfl (spec_l2Has_s _ _ _ _ _ _ _ _ _ (by repeat (first | exact look_same | assumption | refine look_ne (by omega) ?_ | refine look_keep (by assumption) (by omega) (by simp; try omega) ?_ | refine look_hide (by omega) (by first | exact List.not_mem_nil | (simp [hidden, Nat.testBit]; done) | (simp [hidden, Nat.testBit]; omega)) ?_)) (by omega)) (accB_ok rfl) ?_
        refine dP rfl rfl rfl (e_pickF rfl rfl) ?_
        refine dB (fun hocc => ?_) (fun hocc => ?_)
        ·
          try simp only [decide_eq_true_eq, decide_eq_false_iff_not, Bool.not_eq_true', Bool.not_eq_false', Bool.not_eq_true, Bool.not_eq_false] at hocc
          refine dEnd (hK _ [(3, _), (8, _), (9, _), (42, _)] _ _ rfl ?_)
          clear hK K
          refine W.condT rfl ?_
          refine W.sR [6] fun K hK => ?_
          refine st rfl rfl (e_assign rfl) ?_
          refine stEnd (hK _ [(6, _)] _ _ rfl ?_)
          clear hK K
          refine W.ret ?_
          refine blockR ?_
          refine thenR ?_
          refine thenR ?_
          refine blockR ?_
          refine thenR ?_
          refine ⟨.inr rfl, Ends.v0 (by repeat (first | exact self_old | assumption | refine set_old ?_ (by omega) | refine keep_old (by assumption) ?_ (by omega) (by simp; try omega))) hfresh (by first | rfl | (simp [ltT, ltA, ltC, ltV]; try omega)) (res1 (resT rfl) rfl) ?_⟩
          first | rw [fit_no (in3_no (by omega) hk0)] | rw [fit_3w hin3 (all3_yes (fun j hj => hq2 j (by omega)))] | rw [fit_3w hin3 (all3_no (i := i) (by omega) (fitC_no1 hin))] | rw [fit_3w hin3 (all3_no (i := i) (by omega) (fitC_no2 hocc))]
        ·
          try simp only [decide_eq_true_eq, decide_eq_false_iff_not, Bool.not_eq_true', Bool.not_eq_false', Bool.not_eq_true, Bool.not_eq_false] at hocc
          refine dEnd (hK _ [(3, _), (8, _), (9, _), (42, _)] _ _ rfl ?_)
          clear hK K
          refine W.condF rfl ?_
          refine W.skip ?_
          refine blockN ?_
          refine thenN ?_
          refine W.rR [9, 3, 8] fun K hK => ?_
          refine st rfl rfl (e_move rfl) ?_
          refine st rfl rfl (e_add rfl rfl (inB _ (by omega))) ?_
          refine st rfl rfl (e_assign rfl) ?_
          refine stEnd (hK _ [(9, _), (3, _), (8, _)] _ _ rfl ?_)
          clear hK K
          exact roundN (V' := [(9, _)]) [9, 3, 8] rfl (by omega) (by repeat (first | exact Keeps.refl _ _ _ | assumption | refine Keeps.trans ?_ (by assumption) (by omega) (by simp; try omega) | refine Keeps.set ?_ (by first | exact Or.inl (by omega) | (simp; done) | (simp; omega)) | refine Keeps.del ?_ (by first | exact Or.inl (by omega) | (simp; done) | (simp; omega)))) _ (by omega) ⟨i + 1, rfl, rfl, (by first | omega | assumption | simp_all), (all_succ hq2 (fitC_yes hin hocc))⟩
    ·
      try simp only [decide_eq_true_eq, decide_eq_false_iff_not, Bool.not_eq_true', Bool.not_eq_false', Bool.not_eq_true, Bool.not_eq_false] at hb3
      refine stEnd (hK _ [(3, _), (8, _), (9, _), (25, _)] _ _ rfl ?_)
      clear hK K
      refine W.condF rfl ?_
      refine W.exit ?_
      refine thenE ?_
      refine thenE ?_
      refine blockX ?_
      refine thenN ?_
      refine W.sR [6] fun K hK => ?_
      refine st rfl rfl (e_assign rfl) ?_
      refine stEnd (hK _ [(6, _)] _ _ rfl ?_)
      clear hK K
      refine W.ret ?_
      refine ⟨.inr rfl, Ends.v0 (by repeat (first | exact self_old | assumption | refine set_old ?_ (by omega) | refine keep_old (by assumption) ?_ (by omega) (by simp; try omega))) hfresh (by first | rfl | (simp [ltT, ltA, ltC, ltV]; try omega)) (res1 (resT rfl) rfl) ?_⟩
      first | rw [fit_no (in3_no (by omega) hk0)] | rw [fit_3w hin3 (all3_yes (fun j hj => hq2 j (by omega)))] | rw [fit_3w hin3 (all3_no (i := i) (by omega) (fitC_no1 hin))] | rw [fit_3w hin3 (all3_no (i := i) (by omega) (fitC_no2 hocc))]
theorem spec_FitsAt_ok_s (X Y Z : Int) (b : Nat) (ro : Bool) (cs : List C) (d : Nat) (ro2 : Bool) (ps : List C) (a : C) (H : Heap) (n : Nat) (hb : H b = some (.cells ro (flat cs))) (hlen : cs.length ≤ 1048576) (hd : H d = some (.cells ro2 (flat ps))) (hdl : ps.length ≤ 1048576) (hh : isHeap X Y Z cs = true) (hpc : pieceB ps = true) : Fn Try.prog 17 [.agg #[.int .i64 X, .int .i64 Y, .int .i64 Z, .slice (some ⟨b, 0, none⟩) cs.length 3], .slice (some ⟨d, 0, none⟩) ps.length 3, .agg #[.int .i64 a.1, .int .i64 a.2.1, .int .i64 a.2.2]] H n (.tuple #[.bool (fitAt X Y Z cs ps a), .bool true]) (H) (n) := by
  refine Fn.intro' Try.func17 rfl (by kernel_rfl) Try.ntmps17 (by simp) (by omega) fun hfresh => ?_
  have lt_hb := lt_fresh hfresh hb
  have lt_hd := lt_fresh hfresh hd
  have hv := valid_of hh
  have hX := hv.box
  have hp := piece_of hpc
  show W _ _ _ ⟨[(0, _), (1, _), (2, _)], _, _⟩ _
  refine W.sR [1, 3, 5] fun K hK => ?_
  refine st rfl rfl (e_boxA rfl) ?_
  refine st rfl rfl (e_boxA rfl) ?_
  refine st rfl rfl (e_assign rfl) ?_
  refine st rfl rfl (e_assign rfl) ?_
  refine stEnd (hK _ [(1, _), (3, _), (5, _)] _ _ rfl ?_)
  clear hK K
  refine W.seq ?_
  refine W.sR [1, 3, 5, 15] fun K hK => ?_
  refine st rfl rfl (e_loadA t30 rfl rfl (by repeat (first | exact look_same | assumption | refine look_ne (by omega) ?_)) rfl rfl) ?_
  refine stC rfl rfl rfl (spec_l2Heap_s _ _ _ _ _ _ _ _ (by repeat (first | exact look_same | assumption | refine look_ne (by omega) ?_)) (by omega)) ?_
  rw [hh]
  refine st rfl rfl (e_not rfl) ?_
  refine st rfl rfl (e_move rfl) ?_
  refine st rfl rfl (e_move rfl) ?_
  refine stC rfl rfl rfl (spec_l9Piece_s _ _ _ _ _ (by repeat (first | exact look_same | assumption | refine look_ne (by omega) ?_)) (by omega)) ?_
  rw [hpc]
  refine st rfl rfl (e_not rfl) ?_
  refine st rfl rfl (e_pickF rfl rfl) ?_
  refine stEnd (hK _ [(1, _), (3, _), (5, _), (15, _)] _ _ rfl ?_)
  clear hK K
  refine W.condF rfl ?_
  refine W.skip ?_
  refine thenN ?_
  refine W.sR [6, 7] fun K hK => ?_
  refine st rfl rfl (e_loadA t30 rfl rfl (by repeat (first | exact look_same | assumption | refine look_ne (by omega) ?_)) rfl rfl) ?_
  refine st rfl rfl (e_move rfl) ?_
  refine st rfl rfl (e_loadA t25 rfl rfl (by repeat (first | exact look_same | assumption | refine look_ne (by omega) ?_)) rfl rfl) ?_
  refine stC rfl rfl rfl (spec_l9Fits_s _ _ _ _ _ _ _ _ _ _ _ _ (by repeat (first | exact look_same | assumption | refine look_ne (by omega) ?_)) (by omega) (by assumption) (by repeat (first | exact look_same | assumption | refine look_ne (by omega) ?_)) (by assumption)) ?_
  refine st rfl rfl (e_assign rfl) ?_
  refine st rfl rfl (e_assign rfl) ?_
  refine stEnd (hK _ [(6, _), (7, _)] _ _ rfl ?_)
  clear hK K
  refine W.ret ?_
  refine ⟨.inr rfl, Ends.v0 (by repeat (first | exact self_old | assumption | refine set_old ?_ (by omega))) hfresh (by first | rfl | (simp [ltT, ltA, ltC, ltV]; try omega)) (res2 (resT rfl) (resT rfl) rfl rfl) ?_⟩
  rfl
theorem bld73_0_1_2 (v0 : Value) (v1 : Value) (v2 : Value) (h0 : oneV v0 = true) (h1 : oneV v1 = true) (h2 : oneV v2 = true) : cBuild Try.prog 73 [(0, v0), (1, v1), (2, v2)] = some (.agg #[v0, v1, v2]) := by
  simp [cBuild, t73, t3, fieldsOk, placesC, fillC, konst0, putC, (oneV_cells h0).1, (oneV_cells h1).1, (oneV_cells h2).1]
theorem impl_Heap_box_s (X Y Z : Int) (sv : Value) (H : Heap) (n : Nat) : Fn Try.prog 61 [.agg #[.int .i64 X, .int .i64 Y, .int .i64 Z, sv]] H n (.agg #[.int .i64 X, .int .i64 Y, .int .i64 Z]) (H) (n) := by
  refine Fn.intro' Try.func61 rfl (by kernel_rfl) Try.ntmps61 (by simp) (by omega) fun hfresh => ?_
  show W _ _ _ ⟨[(0, _)], _, _⟩ _
  refine W.sR [1, 2] fun K hK => ?_
  refine st rfl rfl (e_boxA rfl) ?_
  refine st rfl rfl (e_alloc t73 rfl) ?_
  refine stEnd (hK _ [(1, _), (2, _)] _ _ rfl ?_)
  clear hK K
  refine W.sR [2] fun K hK => ?_
  refine st rfl rfl (e_fieldAddr t30 t3 rfl rfl) ?_
  refine st rfl rfl (e_load1 t3 rfl rfl (by repeat (first | exact look_same | assumption | refine look_ne (by omega) ?_)) rfl) ?_
  refine st rfl rfl (e_fieldAddr t30 t3 rfl rfl) ?_
  refine st rfl rfl (e_load1 t3 rfl rfl (by repeat (first | exact look_same | assumption | refine look_ne (by omega) ?_)) rfl) ?_
  refine st rfl rfl (e_fieldAddr t30 t3 rfl rfl) ?_
  refine st rfl rfl (e_load1 t3 rfl rfl (by repeat (first | exact look_same | assumption | refine look_ne (by omega) ?_)) rfl) ?_
  refine st rfl rfl (e_build rfl rfl (bld73_0_1_2 _ _ _ rfl rfl rfl)) ?_
  refine stN rfl (e_storeA t73 rfl rfl (by repeat (first | exact look_same | assumption | refine look_ne (by omega) ?_)) rfl rfl rfl (by decide)) ?_
  refine stEnd (hK _ [(2, _)] _ _ rfl ?_)
  clear hK K
  refine W.ret ?_
  refine ⟨.inr rfl, Ends.v0 (by repeat (first | exact self_old | assumption | refine set_old ?_ (by omega))) hfresh (by first | rfl | (simp [ltT, ltA, ltC, ltV]; try omega)) (res1 (resC t73 rfl rfl (by repeat (first | exact look_same | assumption | refine look_ne (by omega) ?_)) rfl rfl) rfl) ?_⟩
  first | rfl | simp_all
theorem impl_within_s (a b c : Int) (H : Heap) (n : Nat) : Fn Try.prog 133 [.int .i64 a, .int .i64 b, .int .i64 c] H n (.bool (within a b c)) (H) (n) := by
  refine Fn.intro' Try.func133 rfl (by kernel_rfl) Try.ntmps133 (by simp) (by omega) fun hfresh => ?_
  show W _ _ _ ⟨[(0, _), (1, _), (2, _)], _, _⟩ _
  refine W.sR [0, 1, 2] fun K hK => ?_
  refine st rfl rfl (e_assign rfl) ?_
  refine stEnd (hK _ [(0, _), (1, _), (2, _)] _ _ rfl ?_)
  clear hK K
  refine W.sR [6] fun K hK => ?_
  refine st rfl rfl (e_move rfl) ?_
  refine st rfl rfl (e_move rfl) ?_
  refine st rfl rfl (e_geq rfl rfl) ?_
  refine st rfl rfl (e_move rfl) ?_
  refine stB (fun hb1 => ?_) (fun hb1 => ?_)
  ·
    try simp only [decide_eq_true_eq, decide_eq_false_iff_not, Bool.not_eq_true', Bool.not_eq_false', Bool.not_eq_true, Bool.not_eq_false] at hb1
    refine st rfl rfl (e_move rfl) ?_
    refine st rfl rfl (e_move rfl) ?_
    refine st rfl rfl (e_leq rfl rfl) ?_
    refine st rfl rfl (e_pickT rfl rfl) ?_
    refine st rfl rfl (e_assign rfl) ?_
    refine stEnd (hK _ [(6, _)] _ _ rfl ?_)
    clear hK K
    refine W.ret ?_
    refine ⟨.inr rfl, Ends.v0 (by repeat (first | exact self_old | assumption | refine set_old ?_ (by omega))) hfresh (by first | rfl | (simp [ltT, ltA, ltC, ltV]; try omega)) (res1 (resT rfl) rfl) ?_⟩
    simp [within, *] <;> omega
  ·
    try simp only [decide_eq_true_eq, decide_eq_false_iff_not, Bool.not_eq_true', Bool.not_eq_false', Bool.not_eq_true, Bool.not_eq_false] at hb1
    refine stS rfl rfl ?_
    refine stS rfl rfl ?_
    refine stS rfl rfl ?_
    refine st rfl rfl (e_pickF rfl rfl) ?_
    refine st rfl rfl (e_assign rfl) ?_
    refine stEnd (hK _ [(6, _)] _ _ rfl ?_)
    clear hK K
    refine W.ret ?_
    refine ⟨.inr rfl, Ends.v0 (by repeat (first | exact self_old | assumption | refine set_old ?_ (by omega))) hfresh (by first | rfl | (simp [ltT, ltA, ltC, ltV]; try omega)) (res1 (resT rfl) rfl) ?_⟩
    simp [within, *] <;> omega
theorem impl_box_valid_s (X Y Z : Int) (H : Heap) (n : Nat) : Fn Try.prog 136 [.agg #[.int .i64 X, .int .i64 Y, .int .i64 Z]] H n (.bool (sides X Y Z)) (H) (n) := by
  refine Fn.intro' Try.func136 rfl (by kernel_rfl) Try.ntmps136 (by simp) (by omega) fun hfresh => ?_
  show W _ _ _ ⟨[(0, _)], _, _⟩ _
  refine W.sR [1] fun K hK => ?_
  refine st rfl rfl (e_boxA rfl) ?_
  refine st rfl rfl (e_assign rfl) ?_
  refine stEnd (hK _ [(1, _)] _ _ rfl ?_)
  clear hK K
  refine W.sR [2] fun K hK => ?_
  refine st rfl rfl (e_idxAK (0) t73 t3 rfl rfl (by first | rfl | omega) (by first | omega | decide)) ?_
  refine st rfl rfl (e_load1 t3 rfl rfl (by repeat (first | exact look_same | assumption | refine look_ne (by omega) ?_)) (by first | rfl | exact tri_getL (by omega))) ?_
  refine stC rfl rfl rfl (impl_within_s _ _ _ _ _ ) ?_
  refine st rfl rfl (e_move rfl) ?_
  refine stB (fun hb1 => ?_) (fun hb1 => ?_)
  ·
    try simp only [decide_eq_true_eq, decide_eq_false_iff_not, Bool.not_eq_true', Bool.not_eq_false', Bool.not_eq_true, Bool.not_eq_false] at hb1
    refine st rfl rfl (e_idxAK (1) t73 t3 rfl rfl (by first | rfl | omega) (by first | omega | decide)) ?_
    refine st rfl rfl (e_load1 t3 rfl rfl (by repeat (first | exact look_same | assumption | refine look_ne (by omega) ?_)) (by first | rfl | exact tri_getL (by omega))) ?_
    refine stC rfl rfl rfl (impl_within_s _ _ _ _ _ ) ?_
    refine st rfl rfl (e_pickT rfl rfl) ?_
    refine st rfl rfl (e_move rfl) ?_
    refine stB (fun hb2 => ?_) (fun hb2 => ?_)
    ·
      try simp only [decide_eq_true_eq, decide_eq_false_iff_not, Bool.not_eq_true', Bool.not_eq_false', Bool.not_eq_true, Bool.not_eq_false] at hb2
      refine st rfl rfl (e_idxAK (2) t73 t3 rfl rfl (by first | rfl | omega) (by first | omega | decide)) ?_
      refine st rfl rfl (e_load1 t3 rfl rfl (by repeat (first | exact look_same | assumption | refine look_ne (by omega) ?_)) (by first | rfl | exact tri_getL (by omega))) ?_
      refine stC rfl rfl rfl (impl_within_s _ _ _ _ _ ) ?_
      refine st rfl rfl (e_pickT rfl rfl) ?_
      refine st rfl rfl (e_assign rfl) ?_
      refine stEnd (hK _ [(2, _)] _ _ rfl ?_)
      clear hK K
      refine W.ret ?_
      refine ⟨.inr rfl, Ends.v0 (by repeat (first | exact self_old | assumption | refine set_old ?_ (by omega))) hfresh (by first | rfl | (simp [ltT, ltA, ltC, ltV]; try omega)) (res1 (resT rfl) rfl) ?_⟩
      simp_all [sides]
    ·
      try simp only [decide_eq_true_eq, decide_eq_false_iff_not, Bool.not_eq_true', Bool.not_eq_false', Bool.not_eq_true, Bool.not_eq_false] at hb2
      refine stS rfl rfl ?_
      refine stS rfl rfl ?_
      refine stS rfl rfl ?_
      refine st rfl rfl (e_pickF rfl rfl) ?_
      refine st rfl rfl (e_assign rfl) ?_
      refine stEnd (hK _ [(2, _)] _ _ rfl ?_)
      clear hK K
      refine W.ret ?_
      refine ⟨.inr rfl, Ends.v0 (by repeat (first | exact self_old | assumption | refine set_old ?_ (by omega))) hfresh (by first | rfl | (simp [ltT, ltA, ltC, ltV]; try omega)) (res1 (resT rfl) rfl) ?_⟩
      simp_all [sides]
  ·
    try simp only [decide_eq_true_eq, decide_eq_false_iff_not, Bool.not_eq_true', Bool.not_eq_false', Bool.not_eq_true, Bool.not_eq_false] at hb1
    refine stS rfl rfl ?_
    refine stS rfl rfl ?_
    refine stS rfl rfl ?_
    refine st rfl rfl (e_pickF rfl rfl) ?_
    refine st rfl rfl (e_move rfl) ?_
    refine stS rfl rfl ?_
    refine stS rfl rfl ?_
    refine stS rfl rfl ?_
    refine st rfl rfl (e_pickF rfl rfl) ?_
    refine st rfl rfl (e_assign rfl) ?_
    refine stEnd (hK _ [(2, _)] _ _ rfl ?_)
    clear hK K
    refine W.ret ?_
    refine ⟨.inr rfl, Ends.v0 (by repeat (first | exact self_old | assumption | refine set_old ?_ (by omega))) hfresh (by first | rfl | (simp [ltT, ltA, ltC, ltV]; try omega)) (res1 (resT rfl) rfl) ?_⟩
    simp_all [sides]
theorem impl_box_has_s (X Y Z : Int) (c : C) (H : Heap) (n : Nat) (hX : (1 ≤ X ∧ X ≤ 4) ∧ (1 ≤ Y ∧ Y ≤ 4) ∧ (1 ≤ Z ∧ Z ≤ 4)) : Fn Try.prog 86 [.agg #[.int .i64 X, .int .i64 Y, .int .i64 Z], .agg #[.int .i64 c.1, .int .i64 c.2.1, .int .i64 c.2.2]] H n (.bool (inBox X Y Z c)) (H) (n) := by
  refine Fn.intro' Try.func86 rfl (by kernel_rfl) Try.ntmps86 (by simp) (by omega) fun hfresh => ?_
  show W _ _ _ ⟨[(0, _), (1, _)], _, _⟩ _
  refine W.sR [2, 3] fun K hK => ?_
  refine st rfl rfl (e_boxA rfl) ?_
  refine st rfl rfl (e_boxA rfl) ?_
  refine st rfl rfl (e_assign rfl) ?_
  refine stEnd (hK _ [(2, _), (3, _)] _ _ rfl ?_)
  clear hK K
  refine W.sR [4] fun K hK => ?_
  refine st rfl rfl (e_idxAK (0) t25 t3 rfl rfl (by first | rfl | omega) (by first | omega | decide)) ?_
  refine st rfl rfl (e_load1 t3 rfl rfl (by repeat (first | exact look_same | assumption | refine look_ne (by omega) ?_)) (by first | rfl | exact tri_getL (by omega))) ?_
  refine st rfl rfl (e_idxAK (0) t73 t3 rfl rfl (by first | rfl | omega) (by first | omega | decide)) ?_
  refine st rfl rfl (e_load1 t3 rfl rfl (by repeat (first | exact look_same | assumption | refine look_ne (by omega) ?_)) (by first | rfl | exact tri_getL (by omega))) ?_
  refine st rfl rfl (e_sub rfl rfl (inB _ (by omega))) ?_
  refine stC rfl rfl rfl (impl_within_s _ _ _ _ _ ) ?_
  refine st rfl rfl (e_move rfl) ?_
  refine stB (fun hb1 => ?_) (fun hb1 => ?_)
  ·
    try simp only [decide_eq_true_eq, decide_eq_false_iff_not, Bool.not_eq_true', Bool.not_eq_false', Bool.not_eq_true, Bool.not_eq_false] at hb1
    refine st rfl rfl (e_idxAK (1) t25 t3 rfl rfl (by first | rfl | omega) (by first | omega | decide)) ?_
    refine st rfl rfl (e_load1 t3 rfl rfl (by repeat (first | exact look_same | assumption | refine look_ne (by omega) ?_)) (by first | rfl | exact tri_getL (by omega))) ?_
    refine st rfl rfl (e_idxAK (1) t73 t3 rfl rfl (by first | rfl | omega) (by first | omega | decide)) ?_
    refine st rfl rfl (e_load1 t3 rfl rfl (by repeat (first | exact look_same | assumption | refine look_ne (by omega) ?_)) (by first | rfl | exact tri_getL (by omega))) ?_
    refine st rfl rfl (e_sub rfl rfl (inB _ (by omega))) ?_
    refine stC rfl rfl rfl (impl_within_s _ _ _ _ _ ) ?_
    refine st rfl rfl (e_pickT rfl rfl) ?_
    refine st rfl rfl (e_move rfl) ?_
    refine stB (fun hb2 => ?_) (fun hb2 => ?_)
    ·
      try simp only [decide_eq_true_eq, decide_eq_false_iff_not, Bool.not_eq_true', Bool.not_eq_false', Bool.not_eq_true, Bool.not_eq_false] at hb2
      refine st rfl rfl (e_idxAK (2) t25 t3 rfl rfl (by first | rfl | omega) (by first | omega | decide)) ?_
      refine st rfl rfl (e_load1 t3 rfl rfl (by repeat (first | exact look_same | assumption | refine look_ne (by omega) ?_)) (by first | rfl | exact tri_getL (by omega))) ?_
      refine st rfl rfl (e_idxAK (2) t73 t3 rfl rfl (by first | rfl | omega) (by first | omega | decide)) ?_
      refine st rfl rfl (e_load1 t3 rfl rfl (by repeat (first | exact look_same | assumption | refine look_ne (by omega) ?_)) (by first | rfl | exact tri_getL (by omega))) ?_
      refine st rfl rfl (e_sub rfl rfl (inB _ (by omega))) ?_
      refine stC rfl rfl rfl (impl_within_s _ _ _ _ _ ) ?_
      refine st rfl rfl (e_pickT rfl rfl) ?_
      refine st rfl rfl (e_assign rfl) ?_
      refine stEnd (hK _ [(4, _)] _ _ rfl ?_)
      clear hK K
      refine W.ret ?_
      refine ⟨.inr rfl, Ends.v0 (by repeat (first | exact self_old | assumption | refine set_old ?_ (by omega))) hfresh (by first | rfl | (simp [ltT, ltA, ltC, ltV]; try omega)) (res1 (resT rfl) rfl) ?_⟩
      simp_all [inBox]
    ·
      try simp only [decide_eq_true_eq, decide_eq_false_iff_not, Bool.not_eq_true', Bool.not_eq_false', Bool.not_eq_true, Bool.not_eq_false] at hb2
      refine stS rfl rfl ?_
      refine stS rfl rfl ?_
      refine stS rfl rfl ?_
      refine stS rfl rfl ?_
      refine stS rfl rfl ?_
      refine stS rfl rfl ?_
      refine st rfl rfl (e_pickF rfl rfl) ?_
      refine st rfl rfl (e_assign rfl) ?_
      refine stEnd (hK _ [(4, _)] _ _ rfl ?_)
      clear hK K
      refine W.ret ?_
      refine ⟨.inr rfl, Ends.v0 (by repeat (first | exact self_old | assumption | refine set_old ?_ (by omega))) hfresh (by first | rfl | (simp [ltT, ltA, ltC, ltV]; try omega)) (res1 (resT rfl) rfl) ?_⟩
      simp_all [inBox]
  ·
    try simp only [decide_eq_true_eq, decide_eq_false_iff_not, Bool.not_eq_true', Bool.not_eq_false', Bool.not_eq_true, Bool.not_eq_false] at hb1
    refine stS rfl rfl ?_
    refine stS rfl rfl ?_
    refine stS rfl rfl ?_
    refine stS rfl rfl ?_
    refine stS rfl rfl ?_
    refine stS rfl rfl ?_
    refine st rfl rfl (e_pickF rfl rfl) ?_
    refine st rfl rfl (e_move rfl) ?_
    refine stS rfl rfl ?_
    refine stS rfl rfl ?_
    refine stS rfl rfl ?_
    refine stS rfl rfl ?_
    refine stS rfl rfl ?_
    refine stS rfl rfl ?_
    refine st rfl rfl (e_pickF rfl rfl) ?_
    refine st rfl rfl (e_assign rfl) ?_
    refine stEnd (hK _ [(4, _)] _ _ rfl ?_)
    clear hK K
    refine W.ret ?_
    refine ⟨.inr rfl, Ends.v0 (by repeat (first | exact self_old | assumption | refine set_old ?_ (by omega))) hfresh (by first | rfl | (simp [ltT, ltA, ltC, ltV]; try omega)) (res1 (resT rfl) rfl) ?_⟩
    simp_all [inBox]
theorem cmp_isNaNint_s (a : Int) (H : Heap) (n : Nat) : Fn Try.prog 160 [.int .i64 a] H n (.bool false) (H) (n) := by
  refine Fn.intro' Try.func160 rfl (by kernel_rfl) Try.ntmps160 (by simp) (by omega) fun hfresh => ?_
  show W _ _ _ ⟨[(0, _)], _, _⟩ _
  refine W.sR [0] fun K hK => ?_
  refine st rfl rfl (e_assign rfl) ?_
  refine stEnd (hK _ [(0, _)] _ _ rfl ?_)
  clear hK K
  refine W.sR [2] fun K hK => ?_
  refine st rfl rfl (e_move rfl) ?_
  refine st rfl rfl (e_move rfl) ?_
  refine st rfl rfl (e_neq rfl rfl) ?_
  refine st rfl rfl (e_assign rfl) ?_
  refine stEnd (hK _ [(2, _)] _ _ rfl ?_)
  clear hK K
  refine W.ret ?_
  refine ⟨.inr rfl, Ends.v0 (by repeat (first | exact self_old | assumption | refine set_old ?_ (by omega))) hfresh (by first | rfl | (simp [ltT, ltA, ltC, ltV]; try omega)) (res1 (resT rfl) rfl) ?_⟩
  simp
theorem cmp_Compareint_s (a b : Int) (H : Heap) (n : Nat) : Fn Try.prog 159 [.int .i64 a, .int .i64 b] H n (.int .i64 (cmpI a b)) (H) (n) := by
  refine Fn.intro' Try.func159 rfl (by kernel_rfl) Try.ntmps159 (by simp) (by omega) fun hfresh => ?_
  show W _ _ _ ⟨[(0, _), (1, _)], _, _⟩ _
  refine W.sR [0, 1] fun K hK => ?_
  refine st rfl rfl (e_assign rfl) ?_
  refine stEnd (hK _ [(0, _), (1, _)] _ _ rfl ?_)
  clear hK K
  refine W.sR [0, 1, 5] fun K hK => ?_
  refine st rfl rfl (e_move rfl) ?_
  refine stC rfl rfl rfl (cmp_isNaNint_s _ _ _ ) ?_
  refine st rfl rfl (e_assign rfl) ?_
  refine stEnd (hK _ [(0, _), (1, _), (5, _)] _ _ rfl ?_)
  clear hK K
  refine W.sR [0, 1, 5, 6] fun K hK => ?_
  refine st rfl rfl (e_move rfl) ?_
  refine stC rfl rfl rfl (cmp_isNaNint_s _ _ _ ) ?_
  refine st rfl rfl (e_assign rfl) ?_
  refine stEnd (hK _ [(0, _), (1, _), (5, _), (6, _)] _ _ rfl ?_)
  clear hK K
  refine W.seq ?_
  refine W.sR [0, 1, 6, 11] fun K hK => ?_
  refine st rfl rfl (e_move rfl) ?_
  refine stEnd (hK _ [(0, _), (1, _), (6, _), (11, _)] _ _ rfl ?_)
  clear hK K
  refine W.condF rfl ?_
  refine W.skip ?_
  refine thenN ?_
  refine W.seq ?_
  refine W.sR [0, 1, 13] fun K hK => ?_
  refine st rfl rfl (e_move rfl) ?_
  refine stEnd (hK _ [(0, _), (1, _), (13, _)] _ _ rfl ?_)
  clear hK K
  refine W.condF rfl ?_
  refine W.skip ?_
  refine thenN ?_
  refine W.seq ?_
  refine W.sR [0, 1, 16] fun K hK => ?_
  refine st rfl rfl (e_move rfl) ?_
  refine st rfl rfl (e_move rfl) ?_
  refine st rfl rfl (e_lss rfl rfl) ?_
  refine stB (fun hb1 => ?_) (fun hb1 => ?_)
  ·
    try simp only [decide_eq_true_eq, decide_eq_false_iff_not, Bool.not_eq_true', Bool.not_eq_false', Bool.not_eq_true, Bool.not_eq_false] at hb1
    refine stEnd (hK _ [(0, _), (1, _), (16, _)] _ _ rfl ?_)
    clear hK K
    refine W.condT rfl ?_
    refine W.sR [4] fun K hK => ?_
    refine st rfl rfl (e_assign rfl) ?_
    refine stEnd (hK _ [(4, _)] _ _ rfl ?_)
    clear hK K
    refine W.ret ?_
    refine thenR ?_
    refine ⟨.inr rfl, Ends.v0 (by repeat (first | exact self_old | assumption | refine set_old ?_ (by omega))) hfresh (by first | rfl | (simp [ltT, ltA, ltC, ltV]; try omega)) (res1 (resT rfl) rfl) ?_⟩
    simp only [cmpI]; congr 1; (repeat' split) <;> omega
  ·
    try simp only [decide_eq_true_eq, decide_eq_false_iff_not, Bool.not_eq_true', Bool.not_eq_false', Bool.not_eq_true, Bool.not_eq_false] at hb1
    refine stEnd (hK _ [(0, _), (1, _), (16, _)] _ _ rfl ?_)
    clear hK K
    refine W.condF rfl ?_
    refine W.skip ?_
    refine thenN ?_
    refine W.seq ?_
    refine W.sR [19] fun K hK => ?_
    refine st rfl rfl (e_move rfl) ?_
    refine st rfl rfl (e_move rfl) ?_
    refine st rfl rfl (e_gtr rfl rfl) ?_
    refine stB (fun hb2 => ?_) (fun hb2 => ?_)
    ·
      try simp only [decide_eq_true_eq, decide_eq_false_iff_not, Bool.not_eq_true', Bool.not_eq_false', Bool.not_eq_true, Bool.not_eq_false] at hb2
      refine stEnd (hK _ [(19, _)] _ _ rfl ?_)
      clear hK K
      refine W.condT rfl ?_
      refine W.sR [4] fun K hK => ?_
      refine st rfl rfl (e_assign rfl) ?_
      refine stEnd (hK _ [(4, _)] _ _ rfl ?_)
      clear hK K
      refine W.ret ?_
      refine thenR ?_
      refine ⟨.inr rfl, Ends.v0 (by repeat (first | exact self_old | assumption | refine set_old ?_ (by omega))) hfresh (by first | rfl | (simp [ltT, ltA, ltC, ltV]; try omega)) (res1 (resT rfl) rfl) ?_⟩
      simp only [cmpI]; congr 1; (repeat' split) <;> omega
    ·
      try simp only [decide_eq_true_eq, decide_eq_false_iff_not, Bool.not_eq_true', Bool.not_eq_false', Bool.not_eq_true, Bool.not_eq_false] at hb2
      refine stEnd (hK _ [(19, _)] _ _ rfl ?_)
      clear hK K
      refine W.condF rfl ?_
      refine W.skip ?_
      refine thenN ?_
      refine W.sR [4] fun K hK => ?_
      refine st rfl rfl (e_assign rfl) ?_
      refine stEnd (hK _ [(4, _)] _ _ rfl ?_)
      clear hK K
      refine W.ret ?_
      refine ⟨.inr rfl, Ends.v0 (by repeat (first | exact self_old | assumption | refine set_old ?_ (by omega))) hfresh (by first | rfl | (simp [ltT, ltA, ltC, ltV]; try omega)) (res1 (resT rfl) rfl) ?_⟩
      simp only [cmpI]; congr 1; (repeat' split) <;> omega
theorem slices_Compareintint_s (b : Nat) (ro : Bool) (xs : List Int) (c : Nat) (ro2 : Bool) (ys : List Int) (H : Heap) (n : Nat) (hb : H b = some (.cells ro (ints xs))) (hc : H c = some (.cells ro2 (ints ys))) (hxs : xs.length ≤ 1048576) (hys : ys.length ≤ 1048576) : Fn Try.prog 153 [.slice (some ⟨b, 0, none⟩) xs.length 1, .slice (some ⟨c, 0, none⟩) ys.length 1] H n (.int .i64 (cmpL xs ys)) (H) (n) := by
  refine Fn.intro' Try.func153 rfl (by kernel_rfl) Try.ntmps153 (by simp) (by omega) fun hfresh => ?_
  have lt_hb := lt_fresh hfresh hb
  have lt_hc := lt_fresh hfresh hc
  show W _ _ _ ⟨[(0, _), (1, _)], _, _⟩ _
  refine W.sR [0, 1] fun K hK => ?_
  refine st rfl rfl (e_assign rfl) ?_
  refine stEnd (hK _ [(0, _), (1, _)] _ _ rfl ?_)
  clear hK K
  refine W.seq ?_
  refine W.sR [0, 1, 9, 10, 11] fun K hK => ?_
  refine st rfl rfl (e_move rfl) ?_
  refine st rfl rfl (e_len t40 rfl) ?_
  refine st rfl rfl (e_move rfl) ?_
  refine stEnd (hK _ [(0, _), (1, _), (9, _), (10, _), (11, _)] _ _ rfl ?_)
  clear hK K
  refine W.block ?_
  refine W.ord [11, 0, 1, 9, 10] (ts' := [(11, _)] ++ [(0, _), (1, _), (9, _), (10, _)]) rfl ?_
  refine W.loopC [(11, _)] [] (fun κ V G μ => ∃ i : Nat, V = [(11, .int .i64 (i : Nat))] ∧ κ = xs.length - i ∧ (i ≤ xs.length ∧ i ≤ ys.length) ∧ (cmpL xs ys = cmpL (xs.drop i) (ys.drop i))) _ ⟨0, rfl, rfl, (by first | omega | assumption | rfl | simp_all), (by first | omega | assumption | rfl | simp_all)⟩ fun κ V G μ hinv hμ hkeep hfr => ?_
  obtain ⟨i, rfl, rfl, hi, hq⟩ := hinv
  refine W.sR [0, 1, 9, 10, 11, 12] fun K hK => ?_
  refine st rfl rfl (e_lss rfl rfl) ?_
  refine stB (fun hb1 => ?_) (fun hb1 => ?_)
  ·
    try simp only [decide_eq_true_eq, decide_eq_false_iff_not, Bool.not_eq_true', Bool.not_eq_false', Bool.not_eq_true, Bool.not_eq_false] at hb1
    refine stEnd (hK _ [(0, _), (1, _), (9, _), (10, _), (11, _), (12, _)] _ _ rfl ?_)
    clear hK K
    refine W.seq ?_
    refine W.condT rfl ?_
    refine W.skip ?_
    refine thenN ?_
    refine W.seq ?_
    refine W.block ?_
    refine W.sR [0, 1, 5, 6, 9, 10, 11] fun K hK => ?_
    refine st rfl rfl (e_move rfl) ?_
    refine st rfl rfl (e_idxSK _ t40 t3 rfl rfl rfl (by first | omega | decide)) ?_
    refine st rfl rfl (e_load1 t3 rfl rfl (by repeat (first | exact look_same | assumption | refine look_ne (by omega) ?_ | refine look_keep (by assumption) (by omega) (by simp; try omega) ?_)) (ints_at (by omega))) ?_
    refine st rfl rfl (e_assign rfl) ?_
    refine st rfl rfl (e_assign rfl) ?_
    refine stEnd (hK _ [(0, _), (1, _), (5, _), (6, _), (9, _), (10, _), (11, _)] _ _ rfl ?_)
    clear hK K
    refine W.seq ?_
    refine W.sR [0, 1, 5, 6, 9, 10, 11, 19] fun K hK => ?_
    refine st rfl rfl (e_move rfl) ?_
    refine st rfl rfl (e_move rfl) ?_
    refine st rfl rfl (e_len t40 rfl) ?_
    refine st rfl rfl (e_geq rfl rfl) ?_
    refine stB (fun hb2 => ?_) (fun hb2 => ?_)
    ·
      try simp only [decide_eq_true_eq, decide_eq_false_iff_not, Bool.not_eq_true', Bool.not_eq_false', Bool.not_eq_true, Bool.not_eq_false] at hb2
      refine stEnd (hK _ [(0, _), (1, _), (5, _), (6, _), (9, _), (10, _), (11, _), (19, _)] _ _ rfl ?_)
      clear hK K
      refine W.condT rfl ?_
      refine W.sR [4] fun K hK => ?_
      refine st rfl rfl (e_assign rfl) ?_
      refine stEnd (hK _ [(4, _)] _ _ rfl ?_)
      clear hK K
      refine W.ret ?_
      refine thenR ?_
      refine blockR ?_
      refine thenR ?_
      refine thenR ?_
      refine blockR ?_
      refine thenR ?_
      refine ⟨.inr rfl, Ends.v0 (by repeat (first | exact self_old | assumption | refine set_old ?_ (by omega) | refine keep_old (by assumption) ?_ (by omega) (by simp; try omega))) hfresh (by first | rfl | (simp [ltT, ltA, ltC, ltV]; try omega)) (res1 (resT rfl) rfl) ?_⟩
      first | rw [cmpL_e1 hq (by omega) (by omega)] | rw [cmpL_e2 hq (by omega) (by omega)] | rw [cmpL_e3 hq (by omega) (by omega)] | rw [hq, cmpL_drop (by omega) (by omega), if_neg (by assumption)]
    ·
      try simp only [decide_eq_true_eq, decide_eq_false_iff_not, Bool.not_eq_true', Bool.not_eq_false', Bool.not_eq_true, Bool.not_eq_false] at hb2
      refine stEnd (hK _ [(0, _), (1, _), (5, _), (6, _), (9, _), (10, _), (11, _), (19, _)] _ _ rfl ?_)
      clear hK K
      refine W.condF rfl ?_
      refine W.skip ?_
      refine thenN ?_
      refine W.sR [0, 1, 6, 7, 9, 10, 11] fun K hK => ?_
      refine st rfl rfl (e_move rfl) ?_
      refine st rfl rfl (e_move rfl) ?_
      refine st rfl rfl (e_idxSK _ t40 t3 rfl rfl rfl (by first | omega | decide)) ?_
      refine st rfl rfl (e_load1 t3 rfl rfl (by repeat (first | exact look_same | assumption | refine look_ne (by omega) ?_ | refine look_keep (by assumption) (by omega) (by simp; try omega) ?_)) (ints_at (by omega))) ?_
      refine st rfl rfl (e_assign rfl) ?_
      refine stEnd (hK _ [(0, _), (1, _), (6, _), (7, _), (9, _), (10, _), (11, _)] _ _ rfl ?_)
      clear hK K
      refine W.sR [0, 1, 8, 9, 10, 11] fun K hK => ?_
      refine st rfl rfl (e_move rfl) ?_
      refine st rfl rfl (e_move rfl) ?_
      refine stC rfl rfl rfl (cmp_Compareint_s _ _ _ _ ) ?_
      refine st rfl rfl (e_assign rfl) ?_
      refine stEnd (hK _ [(0, _), (1, _), (8, _), (9, _), (10, _), (11, _)] _ _ rfl ?_)
      clear hK K
      refine W.sR [0, 1, 8, 9, 10, 11, 28] fun K hK => ?_
      refine st rfl rfl (e_move rfl) ?_
      refine st rfl rfl (e_neq rfl rfl) ?_
      refine stB (fun hb3 => ?_) (fun hb3 => ?_)
      ·
        try simp only [decide_eq_true_eq, decide_eq_false_iff_not, Bool.not_eq_true', Bool.not_eq_false', Bool.not_eq_true, Bool.not_eq_false] at hb3
        refine stEnd (hK _ [(0, _), (1, _), (8, _), (9, _), (10, _), (11, _), (28, _)] _ _ rfl ?_)
        clear hK K
        refine W.condT rfl ?_
        refine W.sR [4] fun K hK => ?_
        refine st rfl rfl (e_move rfl) ?_
        refine st rfl rfl (e_assign rfl) ?_
        refine stEnd (hK _ [(4, _)] _ _ rfl ?_)
        clear hK K
        refine W.ret ?_
        refine blockR ?_
        refine thenR ?_
        refine thenR ?_
        refine blockR ?_
        refine thenR ?_
        refine ⟨.inr rfl, Ends.v0 (by repeat (first | exact self_old | assumption | refine set_old ?_ (by omega) | refine keep_old (by assumption) ?_ (by omega) (by simp; try omega))) hfresh (by first | rfl | (simp [ltT, ltA, ltC, ltV]; try omega)) (res1 (resT rfl) rfl) ?_⟩
        first | rw [cmpL_e1 hq (by omega) (by omega)] | rw [cmpL_e2 hq (by omega) (by omega)] | rw [cmpL_e3 hq (by omega) (by omega)] | rw [hq, cmpL_drop (by omega) (by omega), if_neg (by assumption)]
      ·
        try simp only [decide_eq_true_eq, decide_eq_false_iff_not, Bool.not_eq_true', Bool.not_eq_false', Bool.not_eq_true, Bool.not_eq_false] at hb3
        refine stEnd (hK _ [(0, _), (1, _), (8, _), (9, _), (10, _), (11, _), (28, _)] _ _ rfl ?_)
        clear hK K
        refine W.condF rfl ?_
        refine W.skip ?_
        refine blockN ?_
        refine thenN ?_
        refine W.rR [11, 0, 1, 9, 10] fun K hK => ?_
        refine st rfl rfl (e_add rfl rfl (inB _ (by omega))) ?_
        refine st rfl rfl (e_move rfl) ?_
        refine stEnd (hK _ [(11, _), (0, _), (1, _), (9, _), (10, _)] _ _ rfl ?_)
        clear hK K
        exact roundN (V' := [(11, _)]) [11, 0, 1, 9, 10] rfl (by omega) (by repeat (first | exact Keeps.refl _ _ _ | assumption | refine Keeps.trans ?_ (by assumption) (by omega) (by simp; try omega) | refine Keeps.set ?_ (by first | exact Or.inl (by omega) | (simp; done) | (simp; omega)) | refine Keeps.del ?_ (by first | exact Or.inl (by omega) | (simp; done) | (simp; omega)))) _ (by omega) ⟨i + 1, rfl, rfl, (by first | omega | assumption | simp_all), (by rw [hq, cmpL_drop (by omega) (by omega), if_pos (by assumption)])⟩
  ·
    try simp only [decide_eq_true_eq, decide_eq_false_iff_not, Bool.not_eq_true', Bool.not_eq_false', Bool.not_eq_true, Bool.not_eq_false] at hb1
    refine stEnd (hK _ [(0, _), (1, _), (9, _), (10, _), (11, _), (12, _)] _ _ rfl ?_)
    clear hK K
    refine W.seq ?_
    refine W.condF rfl ?_
    refine W.exit ?_
    refine thenE ?_
    refine thenE ?_
    refine blockX ?_
    refine thenN ?_
    refine W.seq ?_
    refine W.sR [35] fun K hK => ?_
    refine st rfl rfl (e_move rfl) ?_
    refine st rfl rfl (e_len t40 rfl) ?_
    refine st rfl rfl (e_move rfl) ?_
    refine st rfl rfl (e_len t40 rfl) ?_
    refine st rfl rfl (e_lss rfl rfl) ?_
    refine stB (fun hb4 => ?_) (fun hb4 => ?_)
    ·
      try simp only [decide_eq_true_eq, decide_eq_false_iff_not, Bool.not_eq_true', Bool.not_eq_false', Bool.not_eq_true, Bool.not_eq_false] at hb4
      refine stEnd (hK _ [(35, _)] _ _ rfl ?_)
      clear hK K
      refine W.condT rfl ?_
      refine W.sR [4] fun K hK => ?_
      refine st rfl rfl (e_assign rfl) ?_
      refine stEnd (hK _ [(4, _)] _ _ rfl ?_)
      clear hK K
      refine W.ret ?_
      refine thenR ?_
      refine ⟨.inr rfl, Ends.v0 (by repeat (first | exact self_old | assumption | refine set_old ?_ (by omega) | refine keep_old (by assumption) ?_ (by omega) (by simp; try omega))) hfresh (by first | rfl | (simp [ltT, ltA, ltC, ltV]; try omega)) (res1 (resT rfl) rfl) ?_⟩
      first | rw [cmpL_e1 hq (by omega) (by omega)] | rw [cmpL_e2 hq (by omega) (by omega)] | rw [cmpL_e3 hq (by omega) (by omega)] | rw [hq, cmpL_drop (by omega) (by omega), if_neg (by assumption)]
    ·
      try simp only [decide_eq_true_eq, decide_eq_false_iff_not, Bool.not_eq_true', Bool.not_eq_false', Bool.not_eq_true, Bool.not_eq_false] at hb4
      refine stEnd (hK _ [(35, _)] _ _ rfl ?_)
      clear hK K
      refine W.condF rfl ?_
      refine W.skip ?_
      refine thenN ?_
      refine W.sR [4] fun K hK => ?_
      refine st rfl rfl (e_assign rfl) ?_
      refine stEnd (hK _ [(4, _)] _ _ rfl ?_)
      clear hK K
      refine W.ret ?_
      refine ⟨.inr rfl, Ends.v0 (by repeat (first | exact self_old | assumption | refine set_old ?_ (by omega) | refine keep_old (by assumption) ?_ (by omega) (by simp; try omega))) hfresh (by first | rfl | (simp [ltT, ltA, ltC, ltV]; try omega)) (res1 (resT rfl) rfl) ?_⟩
      first | rw [cmpL_e1 hq (by omega) (by omega)] | rw [cmpL_e2 hq (by omega) (by omega)] | rw [cmpL_e3 hq (by omega) (by omega)] | rw [hq, cmpL_drop (by omega) (by omega), if_neg (by assumption)]
theorem impl_compareCells_s (a b : C) (H : Heap) (n : Nat) : Fn Try.prog 137 [.agg #[.int .i64 a.1, .int .i64 a.2.1, .int .i64 a.2.2], .agg #[.int .i64 b.1, .int .i64 b.2.1, .int .i64 b.2.2]] H n (.int .i64 (cmpC a b)) (H) (n) := by
  refine Fn.intro' Try.func137 rfl (by kernel_rfl) Try.ntmps137 (by simp) (by omega) fun hfresh => ?_
  show W _ _ _ ⟨[(0, _), (1, _)], _, _⟩ _
  refine W.sR [2, 3] fun K hK => ?_
  refine st rfl rfl (e_boxA rfl) ?_
  refine st rfl rfl (e_boxA rfl) ?_
  refine st rfl rfl (e_assign rfl) ?_
  refine stEnd (hK _ [(2, _), (3, _)] _ _ rfl ?_)
  clear hK K
  refine W.sD [4] [0, 0, 3, 7] (by kernel_rfl) (by kernel_rfl) fun K hK => ?_
  refine dLs rfl rfl rfl (by omega) (accB_ok rfl) (e_sliceA t25 t3 rfl (by repeat (first | exact look_same | assumption | refine look_ne (by omega) ?_)) (by first | (simp; done) | (simp only [tri, List.length_cons, List.length_nil]; omega))) ?_
  refine dLs rfl rfl rfl (by omega) (accB_ok rfl) (e_sliceA t25 t3 rfl (by repeat (first | exact look_same | assumption | refine look_ne (by omega) ?_)) (by first | (simp; done) | (simp only [tri, List.length_cons, List.length_nil]; omega))) ?_
  refine dC rfl rfl rfl rfl (slices_Compareintint_s _ _ [a.1, a.2.1, a.2.2] _ _ [b.1, b.2.1, b.2.2] _ _ (by repeat (first | exact look_same | assumption | refine look_ne (by omega) ?_ | refine look_hide (by omega) (by first | exact List.not_mem_nil | (simp [hidden, Nat.testBit]; done) | (simp [hidden, Nat.testBit]; omega)) ?_)) (by repeat (first | exact look_same | assumption | refine look_ne (by omega) ?_ | refine look_hide (by omega) (by first | exact List.not_mem_nil | (simp [hidden, Nat.testBit]; done) | (simp [hidden, Nat.testBit]; omega)) ?_)) (by simp) (by simp)) (accB_ok rfl) ?_
  refine dP rfl rfl rfl (e_assign rfl) ?_
  refine dEnd (hK _ [(4, _)] _ _ rfl ?_)
  clear hK K
  refine W.ret ?_
  refine ⟨.inr rfl, Ends.v0 (by repeat (first | exact self_old | assumption | refine set_old ?_ (by omega))) hfresh (by first | rfl | (simp [ltT, ltA, ltC, ltV]; try omega)) (res1 (resT rfl) rfl) ?_⟩
  rfl
theorem impl_IsHeap_s (X Y Z : Int) (b : Nat) (ro : Bool) (cs : List C) (H : Heap) (n : Nat) (hb : H b = some (.cells ro (flat cs))) (hlen : cs.length ≤ 1048576) : Fn Try.prog 94 [.agg #[.int .i64 X, .int .i64 Y, .int .i64 Z, .slice (some ⟨b, 0, none⟩) cs.length 3]] H n (.bool (isHeap X Y Z cs)) (H) (n) := by
  refine Fn.intro' Try.func94 rfl (by kernel_rfl) Try.ntmps94 (by simp) (by omega) fun hfresh => ?_
  have lt_hb := lt_fresh hfresh hb
  show W _ _ _ ⟨[(0, _)], _, _⟩ _
  refine W.sR [1] fun K hK => ?_
  refine st rfl rfl (e_boxA rfl) ?_
  refine st rfl rfl (e_assign rfl) ?_
  refine stEnd (hK _ [(1, _)] _ _ rfl ?_)
  clear hK K
  refine W.seq ?_
  refine W.sR [1, 8] fun K hK => ?_
  refine st rfl rfl (e_loadA t30 rfl rfl (by repeat (first | exact look_same | assumption | refine look_ne (by omega) ?_ | refine look_keep (by assumption) (by omega) (by simp; try omega) ?_)) rfl rfl) ?_
  refine stC rfl rfl rfl (impl_Heap_box_s _ _ _ _ _ _ ) ?_
  refine stC rfl rfl rfl (impl_box_valid_s _ _ _ _ _ ) ?_
  refine st rfl rfl (e_not rfl) ?_
  refine stB (fun hv => ?_) (fun hv => ?_)
  ·
    try simp only [decide_eq_true_eq, decide_eq_false_iff_not, Bool.not_eq_true', Bool.not_eq_false', Bool.not_eq_true, Bool.not_eq_false] at hv
    refine stEnd (hK _ [(1, _), (8, _)] _ _ rfl ?_)
    clear hK K
    refine W.condT rfl ?_
    refine W.sR [2] fun K hK => ?_
    refine st rfl rfl (e_assign rfl) ?_
    refine stEnd (hK _ [(2, _)] _ _ rfl ?_)
    clear hK K
    refine W.ret ?_
    refine thenR ?_
    refine ⟨.inr rfl, Ends.v0 (by repeat (first | exact self_old | assumption | refine set_old ?_ (by omega) | refine keep_old (by assumption) ?_ (by omega) (by simp; try omega))) hfresh (by first | rfl | (simp [ltT, ltA, ltC, ltV]; try omega)) (res1 (resT rfl) rfl) ?_⟩
    first | (rw [isHeap_no1 hv]) | (rw [isHeap_yes hv (fun j hj => hq j (by omega))]) | (rw [isHeap_no2 (i := i) (by omega) (by first | exact okAt_no1 (by assumption) | exact okAt_no2 (by omega) (by assumption) | exact okAt_no3 (by omega) (by assumption))])
  ·
    try simp only [decide_eq_true_eq, decide_eq_false_iff_not, Bool.not_eq_true', Bool.not_eq_false', Bool.not_eq_true, Bool.not_eq_false] at hv
    have hX := sides_bd hv
    refine stEnd (hK _ [(1, _), (8, _)] _ _ rfl ?_)
    clear hK K
    refine W.condF rfl ?_
    refine W.skip ?_
    refine thenN ?_
    refine W.seq ?_
    refine W.sR [1, 10, 11, 12] fun K hK => ?_
    refine st rfl rfl (e_fieldAddr t30 t22 rfl rfl) ?_
    refine st rfl rfl (e_load1 t22 rfl rfl (by repeat (first | exact look_same | assumption | refine look_ne (by omega) ?_ | refine look_keep (by assumption) (by omega) (by simp; try omega) ?_)) rfl) ?_
    refine st rfl rfl (e_len t22 rfl) ?_
    refine st rfl rfl (e_move rfl) ?_
    refine stEnd (hK _ [(1, _), (10, _), (11, _), (12, _)] _ _ rfl ?_)
    clear hK K
    refine W.block ?_
    refine W.ord [12, 1, 10, 11] (ts' := [(12, _)] ++ [(1, _), (10, _), (11, _)]) rfl ?_
    refine W.loopC [(12, _)] [] (fun κ V G μ => ∃ i : Nat, V = [(12, .int .i64 (i : Nat))] ∧ κ = cs.length - i ∧ (i ≤ cs.length) ∧ (∀ j, j < i → okAt X Y Z cs j = true)) _ ⟨0, rfl, rfl, (by first | omega | assumption | rfl | simp_all), (fun j hj => absurd hj (by omega))⟩ fun κ V G μ hinv hμ hkeep hfr => ?_
    obtain ⟨i, rfl, rfl, hi, hq⟩ := hinv
    refine W.sR [1, 10, 11, 12, 13] fun K hK => ?_
    refine st rfl rfl (e_lss rfl rfl) ?_
    refine stB (fun hb2 => ?_) (fun hb2 => ?_)
    ·
      try simp only [decide_eq_true_eq, decide_eq_false_iff_not, Bool.not_eq_true', Bool.not_eq_false', Bool.not_eq_true, Bool.not_eq_false] at hb2
      refine stEnd (hK _ [(1, _), (10, _), (11, _), (12, _), (13, _)] _ _ rfl ?_)
      clear hK K
      refine W.seq ?_
      refine W.condT rfl ?_
      refine W.skip ?_
      refine thenN ?_
      refine W.seq ?_
      refine W.block ?_
      refine W.sR [1, 3, 4, 10, 11, 12] fun K hK => ?_
      refine st rfl rfl (e_move rfl) ?_
      refine st rfl rfl (e_idxSK _ t22 t25 rfl rfl rfl (by first | omega | decide)) ?_
      refine st rfl rfl (e_loadP t25 rfl rfl (by repeat (first | exact look_same | assumption | refine look_ne (by omega) ?_ | refine look_keep (by assumption) (by omega) (by simp; try omega) ?_)) (flat_at (by omega))) ?_
      refine st rfl rfl (e_alloc t25 rfl) ?_
      refine st rfl rfl (e_assign rfl) ?_
      refine stN rfl (e_storeA t25 rfl rfl (by repeat (first | exact look_same | assumption | refine look_ne (by omega) ?_ | refine look_keep (by assumption) (by omega) (by simp; try omega) ?_)) rfl rfl rfl (by decide)) ?_
      refine stEnd (hK _ [(1, _), (3, _), (4, _), (10, _), (11, _), (12, _)] _ _ rfl ?_)
      clear hK K
      refine W.sD [1, 10, 11, 12, 36] [0, 1, 0, 7, 15, 31, 63, 127, 255, 511, 1023, 511, 2559, 8191, 16383, 511, 65535, 131071, 262143, 524287] (by kernel_rfl) (by kernel_rfl) fun K hK => ?_
      refine dL rfl rfl rfl (by omega) (accB_ok rfl) (e_loadA t30 rfl rfl (by repeat (first | exact look_same | assumption | refine look_ne (by omega) ?_ | refine look_keep (by assumption) (by omega) (by simp; try omega) ?_)) rfl rfl) ?_
      refine dC rfl rfl rfl rfl (impl_Heap_box_s _ _ _ _ _ _ ) (accB_ok rfl) ?_
      refine dL rfl rfl rfl (by omega) (by repeat (first | exact trivial | refine And.intro (Or.inl rfl) ?_ | refine And.intro (Or.inr trivial) ?_ | refine And.intro (Or.inr (And.intro (Or.inl (by omega)) (by first | (simp; done) | (simp; omega)))) ?_ | refine And.intro (Or.inr (And.intro (Or.inr (by omega)) (by first | (simp; done) | (simp; omega)))) ?_ | refine And.intro (Or.inr (by simp [compat]; try omega)) ?_)) (e_loadA t25 rfl rfl (by repeat (first | exact look_same | assumption | refine look_ne (by omega) ?_ | refine look_keep (by assumption) (by omega) (by simp; try omega) ?_)) rfl rfl) ?_
      refine dC rfl rfl rfl rfl (impl_box_has_s _ _ _ _ _ _ (by omega)) (accB_ok rfl) ?_
      refine dP rfl rfl rfl (e_not rfl) ?_
      refine dP rfl rfl rfl (e_move rfl) ?_
      refine dB (fun hb3 => ?_) (fun hb3 => ?_)
      ·
        try simp only [decide_eq_true_eq, decide_eq_false_iff_not, Bool.not_eq_true', Bool.not_eq_false', Bool.not_eq_true, Bool.not_eq_false] at hb3
        refine dS rfl rfl ?_
        refine dS rfl rfl ?_
        refine dS rfl rfl ?_
        refine dS rfl rfl ?_
        refine dS rfl rfl ?_
        refine dS rfl rfl ?_
        refine dS rfl rfl ?_
        refine dS rfl rfl ?_
        refine dS rfl rfl ?_
        refine dS rfl rfl ?_
        refine dS rfl rfl ?_
        refine dS rfl rfl ?_
        refine dS rfl rfl ?_
        refine dP rfl rfl rfl (e_pickT rfl rfl) ?_
        refine dEnd (hK _ [(1, _), (10, _), (11, _), (12, _), (36, _)] _ _ rfl ?_)
        clear hK K
        refine W.condT rfl ?_
        refine W.sR [2] fun K hK => ?_
        refine st rfl rfl (e_assign rfl) ?_
        refine stEnd (hK _ [(2, _)] _ _ rfl ?_)
        clear hK K
        refine W.ret ?_
        refine blockR ?_
        refine thenR ?_
        refine thenR ?_
        refine blockR ?_
        refine thenR ?_
        refine ⟨.inr rfl, Ends.v0 (by repeat (first | exact self_old | assumption | refine set_old ?_ (by omega) | refine keep_old (by assumption) ?_ (by omega) (by simp; try omega))) hfresh (by first | rfl | (simp [ltT, ltA, ltC, ltV]; try omega)) (res1 (resT rfl) rfl) ?_⟩
        first | (rw [isHeap_no1 hv]) | (rw [isHeap_yes hv (fun j hj => hq j (by omega))]) | (rw [isHeap_no2 (i := i) (by omega) (by first | exact okAt_no1 (by assumption) | exact okAt_no2 (by omega) (by assumption) | exact okAt_no3 (by omega) (by assumption))])
      ·
        try simp only [decide_eq_true_eq, decide_eq_false_iff_not, Bool.not_eq_true', Bool.not_eq_false', Bool.not_eq_true, Bool.not_eq_false] at hb3
        refine dP rfl rfl rfl (e_move rfl) ?_
        refine dP rfl rfl rfl (e_gtr rfl rfl) ?_
        refine dP rfl rfl rfl (e_move rfl) ?_
        refine dB (fun hb4 => ?_) (fun hb4 => ?_)
        ·
          try simp only [decide_eq_true_eq, decide_eq_false_iff_not, Bool.not_eq_true', Bool.not_eq_false', Bool.not_eq_true, Bool.not_eq_false] at hb4
          refine dP rfl rfl rfl (e_fieldAddr t30 t22 rfl rfl) ?_
          refine dL rfl rfl rfl (by omega) (accB_ok rfl) (e_load1 t22 rfl rfl (by repeat (first | exact look_same | assumption | refine look_ne (by omega) ?_ | refine look_keep (by assumption) (by omega) (by simp; try omega) ?_)) rfl) ?_
          refine dP rfl rfl rfl (e_move rfl) ?_
          refine dP rfl rfl rfl (e_sub rfl rfl (inB _ (by omega))) ?_
          refine dP rfl rfl rfl (e_idxSK (i - 1) t22 t25 rfl rfl (by first | rfl | omega) (by first | omega | decide)) ?_
          refine dL rfl rfl rfl (by omega) (accB_ok rfl) (e_loadP t25 rfl rfl (by repeat (first | exact look_same | assumption | refine look_ne (by omega) ?_ | refine look_keep (by assumption) (by omega) (by simp; try omega) ?_)) (flat_at (by omega))) ?_
          refine dL rfl rfl rfl (by omega) (accB_ok rfl) (e_loadA t25 rfl rfl (by repeat (first | exact look_same | assumption | refine look_ne (by omega) ?_ | refine look_keep (by assumption) (by omega) (by simp; try omega) ?_)) rfl rfl) ?_
          refine dC rfl rfl rfl rfl (impl_compareCells_s _ _ _ _ ) (accB_ok rfl) ?_
          refine dP rfl rfl rfl (e_geq rfl rfl) ?_
          refine dP rfl rfl rfl (e_pickT rfl rfl) ?_
          refine dP rfl rfl rfl (e_pickF rfl rfl) ?_
          refine dB (fun hb5 => ?_) (fun hb5 => ?_)
          ·
            try simp only [decide_eq_true_eq, decide_eq_false_iff_not, Bool.not_eq_true', Bool.not_eq_false', Bool.not_eq_true, Bool.not_eq_false] at hb5
            refine dEnd (hK _ [(1, _), (10, _), (11, _), (12, _), (36, _)] _ _ rfl ?_)
            clear hK K
            refine W.condT rfl ?_
            refine W.sR [2] fun K hK => ?_
            refine st rfl rfl (e_assign rfl) ?_
            refine stEnd (hK _ [(2, _)] _ _ rfl ?_)
            clear hK K
            refine W.ret ?_
            refine blockR ?_
            refine thenR ?_
            refine thenR ?_
            refine blockR ?_
            refine thenR ?_
            refine ⟨.inr rfl, Ends.v0 (by repeat (first | exact self_old | assumption | refine set_old ?_ (by omega) | refine keep_old (by assumption) ?_ (by omega) (by simp; try omega))) hfresh (by first | rfl | (simp [ltT, ltA, ltC, ltV]; try omega)) (res1 (resT rfl) rfl) ?_⟩
            first | (rw [isHeap_no1 hv]) | (rw [isHeap_yes hv (fun j hj => hq j (by omega))]) | (rw [isHeap_no2 (i := i) (by omega) (by first | exact okAt_no1 (by assumption) | exact okAt_no2 (by omega) (by assumption) | exact okAt_no3 (by omega) (by assumption))])
          ·
            try simp only [decide_eq_true_eq, decide_eq_false_iff_not, Bool.not_eq_true', Bool.not_eq_false', Bool.not_eq_true, Bool.not_eq_false] at hb5
            refine dEnd (hK _ [(1, _), (10, _), (11, _), (12, _), (36, _)] _ _ rfl ?_)
            clear hK K
            refine W.condF rfl ?_
            refine W.skip ?_
            refine blockN ?_
            refine thenN ?_
            refine W.rR [12, 1, 10, 11] fun K hK => ?_
            refine st rfl rfl (e_add rfl rfl (inB _ (by omega))) ?_
            refine st rfl rfl (e_move rfl) ?_
            refine stEnd (hK _ [(12, _), (1, _), (10, _), (11, _)] _ _ rfl ?_)
            clear hK K
            exact roundN (V' := [(12, _)]) [12, 1, 10, 11] rfl (by omega) (by repeat (first | exact Keeps.refl _ _ _ | assumption | refine Keeps.trans ?_ (by assumption) (by omega) (by simp; try omega) | refine Keeps.set ?_ (by first | exact Or.inl (by omega) | (simp; done) | (simp; omega)) | refine Keeps.del ?_ (by first | exact Or.inl (by omega) | (simp; done) | (simp; omega)))) _ (by omega) ⟨i + 1, rfl, rfl, (by first | omega | assumption | simp_all), (all_succ hq (by first | exact okAt_yes1 (by assumption) (by omega) | exact okAt_yes2 (by assumption) (by assumption) | exact okAt_yes3 (by assumption) (by assumption)))⟩
        ·
          try simp only [decide_eq_true_eq, decide_eq_false_iff_not, Bool.not_eq_true', Bool.not_eq_false', Bool.not_eq_true, Bool.not_eq_false] at hb4
          refine dS rfl rfl ?_
          refine dS rfl rfl ?_
          refine dS rfl rfl ?_
          refine dS rfl rfl ?_
          refine dS rfl rfl ?_
          refine dS rfl rfl ?_
          refine dS rfl rfl ?_
          refine dS rfl rfl ?_
          refine dS rfl rfl ?_
          refine dP rfl rfl rfl (e_pickF rfl rfl) ?_
          refine dP rfl rfl rfl (e_pickF rfl rfl) ?_
          refine dEnd (hK _ [(1, _), (10, _), (11, _), (12, _), (36, _)] _ _ rfl ?_)
          clear hK K
          refine W.condF rfl ?_
          refine W.skip ?_
          refine blockN ?_
          refine thenN ?_
          refine W.rR [12, 1, 10, 11] fun K hK => ?_
          refine st rfl rfl (e_add rfl rfl (inB _ (by omega))) ?_
          refine st rfl rfl (e_move rfl) ?_
          refine stEnd (hK _ [(12, _), (1, _), (10, _), (11, _)] _ _ rfl ?_)
          clear hK K
          exact roundN (V' := [(12, _)]) [12, 1, 10, 11] rfl (by omega) (by repeat (first | exact Keeps.refl _ _ _ | assumption | refine Keeps.trans ?_ (by assumption) (by omega) (by simp; try omega) | refine Keeps.set ?_ (by first | exact Or.inl (by omega) | (simp; done) | (simp; omega)) | refine Keeps.del ?_ (by first | exact Or.inl (by omega) | (simp; done) | (simp; omega)))) _ (by omega) ⟨i + 1, rfl, rfl, (by first | omega | assumption | simp_all), (all_succ hq (by first | exact okAt_yes1 (by assumption) (by omega) | exact okAt_yes2 (by assumption) (by assumption) | exact okAt_yes3 (by assumption) (by assumption)))⟩
    ·
      try simp only [decide_eq_true_eq, decide_eq_false_iff_not, Bool.not_eq_true', Bool.not_eq_false', Bool.not_eq_true, Bool.not_eq_false] at hb2
      refine stEnd (hK _ [(1, _), (10, _), (11, _), (12, _), (13, _)] _ _ rfl ?_)
      clear hK K
      refine W.seq ?_
      refine W.condF rfl ?_
      refine W.exit ?_
      refine thenE ?_
      refine thenE ?_
      refine blockX ?_
      refine thenN ?_
      refine W.sR [2] fun K hK => ?_
      refine st rfl rfl (e_assign rfl) ?_
      refine stEnd (hK _ [(2, _)] _ _ rfl ?_)
      clear hK K
      refine W.ret ?_
      refine ⟨.inr rfl, Ends.v0 (by repeat (first | exact self_old | assumption | refine set_old ?_ (by omega) | refine keep_old (by assumption) ?_ (by omega) (by simp; try omega))) hfresh (by first | rfl | (simp [ltT, ltA, ltC, ltV]; try omega)) (res1 (resT rfl) rfl) ?_⟩
      first | (rw [isHeap_no1 hv]) | (rw [isHeap_yes hv (fun j hj => hq j (by omega))]) | (rw [isHeap_no2 (i := i) (by omega) (by first | exact okAt_no1 (by assumption) | exact okAt_no2 (by omega) (by assumption) | exact okAt_no3 (by omega) (by assumption))])
theorem slices_IndexFunc3int3int_s (tb d : Nat) (ps : List C) (fid : Nat) (caps : List Value) (f : Bool) (H : Heap) (n : Nat) (htb : H tb = some (.cells false [.slice (some ⟨d, 0, none⟩) ps.length 3])) (hf : ∀ (G : Heap) (m : Nat), n ≤ m → (∀ x k, x < n → H x = some k → G x = some k) → Fn Try.prog fid (.slice (some ⟨d, 0, none⟩) ps.length 3 :: caps) G m (.bool f) G m) : Fn Try.prog 148 [.slice (some ⟨tb, 0, none⟩) 1 1, .func (.func fid) #[] (List.toArray caps)] H n (.int .i64 (if f then 0 else -1)) (H) (n) := by
  refine Fn.intro' Try.func148 rfl (by kernel_rfl) Try.ntmps148 (by simp) (by omega) fun hfresh => ?_
  have lt_htb := lt_fresh hfresh htb
  show W _ _ _ ⟨[(0, _), (1, _)], _, _⟩ _
  refine W.sR [0, 1] fun K hK => ?_
  refine st rfl rfl (e_assign rfl) ?_
  refine stEnd (hK _ [(0, _), (1, _)] _ _ rfl ?_)
  clear hK K
  refine W.seq ?_
  refine W.sR [0, 1, 7, 8] fun K hK => ?_
  refine st rfl rfl (e_move rfl) ?_
  refine st rfl rfl (e_len t60 rfl) ?_
  refine st rfl rfl (e_move rfl) ?_
  refine stEnd (hK _ [(0, _), (1, _), (7, _), (8, _)] _ _ rfl ?_)
  clear hK K
  refine W.block ?_
  refine W.ord [8, 0, 1, 7] (ts' := [(8, _)] ++ [(0, _), (1, _), (7, _)]) rfl ?_
  refine W.loopC [(8, _)] [] (fun κ V G μ => ∃ i : Nat, V = [(8, .int .i64 (i : Nat))] ∧ κ = 1 - i ∧ (i ≤ 1) ∧ (0 < i → f = false)) _ ⟨0, rfl, rfl, (by first | omega | assumption | rfl | simp_all), (fun hj => absurd hj (by omega))⟩ fun κ V G μ hinv hμ hkeep hfr => ?_
  obtain ⟨i, rfl, rfl, hi, hq⟩ := hinv
  refine W.sR [0, 1, 7, 8, 9] fun K hK => ?_
  refine st rfl rfl (e_lss rfl rfl) ?_
  refine stB (fun hb1 => ?_) (fun hb1 => ?_)
  ·
    try simp only [decide_eq_true_eq, decide_eq_false_iff_not, Bool.not_eq_true', Bool.not_eq_false', Bool.not_eq_true, Bool.not_eq_false] at hb1
    refine stEnd (hK _ [(0, _), (1, _), (7, _), (8, _), (9, _)] _ _ rfl ?_)
    clear hK K
    refine W.seq ?_
    refine W.condT rfl ?_
    refine W.skip ?_
    refine thenN ?_
    refine W.seq ?_
    refine W.block ?_
    refine W.sR [0, 1, 5, 7, 8] fun K hK => ?_
    refine st rfl rfl (e_move rfl) ?_
    refine st rfl rfl (e_assign rfl) ?_
    refine stEnd (hK _ [(0, _), (1, _), (5, _), (7, _), (8, _)] _ _ rfl ?_)
    clear hK K
    refine W.sR [0, 1, 5, 7, 8, 16] fun K hK => ?_
    refine st rfl rfl (e_move rfl) ?_
    refine st rfl rfl (e_move rfl) ?_
    refine st rfl rfl (e_move rfl) ?_
    refine st rfl rfl (e_idxSK (0) t60 t22 rfl rfl (by omega) (by simp)) ?_
    refine st rfl rfl (e_load1 t22 rfl rfl (by repeat (first | exact look_same | assumption | refine look_ne (by omega) ?_ | refine look_keep (by assumption) (by omega) (by simp; try omega) ?_)) rfl) ?_
    refine stC rfl rfl rfl (hf _ _ (by omega) (by repeat (first | exact self_old | assumption | refine set_old ?_ (by omega) | refine keep_old (by assumption) ?_ (by omega) (by simp; try omega)))) ?_
    refine stB (fun hb9 => ?_) (fun hb9 => ?_)
    ·
      try simp only [decide_eq_true_eq, decide_eq_false_iff_not, Bool.not_eq_true', Bool.not_eq_false', Bool.not_eq_true, Bool.not_eq_false] at hb9
      refine stEnd (hK _ [(0, _), (1, _), (5, _), (7, _), (8, _), (16, _)] _ _ rfl ?_)
      clear hK K
      refine W.condT rfl ?_
      refine W.sR [4] fun K hK => ?_
      refine st rfl rfl (e_move rfl) ?_
      refine st rfl rfl (e_assign rfl) ?_
      refine stEnd (hK _ [(4, _)] _ _ rfl ?_)
      clear hK K
      refine W.ret ?_
      refine blockR ?_
      refine thenR ?_
      refine thenR ?_
      refine blockR ?_
      refine thenR ?_
      refine ⟨.inr rfl, Ends.v0 (by repeat (first | exact self_old | assumption | refine set_old ?_ (by omega) | refine keep_old (by assumption) ?_ (by omega) (by simp; try omega))) hfresh (by first | rfl | (simp [ltT, ltA, ltC, ltV]; try omega)) (res1 (resT rfl) rfl) ?_⟩
      (obtain rfl : i = 0 := by omega); rw [hb9]; rfl
    ·
      try simp only [decide_eq_true_eq, decide_eq_false_iff_not, Bool.not_eq_true', Bool.not_eq_false', Bool.not_eq_true, Bool.not_eq_false] at hb9
      refine stEnd (hK _ [(0, _), (1, _), (5, _), (7, _), (8, _), (16, _)] _ _ rfl ?_)
      clear hK K
      refine W.condF rfl ?_
      refine W.skip ?_
      refine blockN ?_
      refine thenN ?_
      refine W.rR [8, 0, 1, 7] fun K hK => ?_
      refine st rfl rfl (e_add rfl rfl (inB _ (by omega))) ?_
      refine st rfl rfl (e_move rfl) ?_
      refine stEnd (hK _ [(8, _), (0, _), (1, _), (7, _)] _ _ rfl ?_)
      clear hK K
      exact roundN (V' := [(8, _)]) [8, 0, 1, 7] rfl (by omega) (by repeat (first | exact Keeps.refl _ _ _ | assumption | refine Keeps.trans ?_ (by assumption) (by omega) (by simp; try omega) | refine Keeps.set ?_ (by first | exact Or.inl (by omega) | (simp; done) | (simp; omega)) | refine Keeps.del ?_ (by first | exact Or.inl (by omega) | (simp; done) | (simp; omega)))) _ (by omega) ⟨i + 1, rfl, rfl, (by first | omega | assumption | simp_all), (fun _ => hb9)⟩
  ·
    try simp only [decide_eq_true_eq, decide_eq_false_iff_not, Bool.not_eq_true', Bool.not_eq_false', Bool.not_eq_true, Bool.not_eq_false] at hb1
    refine stEnd (hK _ [(0, _), (1, _), (7, _), (8, _), (9, _)] _ _ rfl ?_)
    clear hK K
    refine W.seq ?_
    refine W.condF rfl ?_
    refine W.exit ?_
    refine thenE ?_
    refine thenE ?_
    refine blockX ?_
    refine thenN ?_
    refine W.sR [4] fun K hK => ?_
    refine st rfl rfl (e_assign rfl) ?_
    refine stEnd (hK _ [(4, _)] _ _ rfl ?_)
    clear hK K
    refine W.ret ?_
    refine ⟨.inr rfl, Ends.v0 (by repeat (first | exact self_old | assumption | refine set_old ?_ (by omega) | refine keep_old (by assumption) ?_ (by omega) (by simp; try omega))) hfresh (by first | rfl | (simp [ltT, ltA, ltC, ltV]; try omega)) (res1 (resT rfl) rfl) ?_⟩
    rw [hq (by omega)]; rfl
theorem slices_ContainsFunc3int3int_s (tb d : Nat) (ps : List C) (fid : Nat) (caps : List Value) (f : Bool) (H : Heap) (n : Nat) (htb : H tb = some (.cells false [.slice (some ⟨d, 0, none⟩) ps.length 3])) (hf : ∀ (G : Heap) (m : Nat), n ≤ m → (∀ x k, x < n → H x = some k → G x = some k) → Fn Try.prog fid (.slice (some ⟨d, 0, none⟩) ps.length 3 :: caps) G m (.bool f) G m) : Fn Try.prog 115 [.slice (some ⟨tb, 0, none⟩) 1 1, .func (.func fid) #[] (List.toArray caps)] H n (.bool f) (H) (n) := by
  refine Fn.intro' Try.func115 rfl (by kernel_rfl) Try.ntmps115 (by simp) (by omega) fun hfresh => ?_
  have lt_htb := lt_fresh hfresh htb
  show W _ _ _ ⟨[(0, _), (1, _)], _, _⟩ _
  refine W.sR [0, 1] fun K hK => ?_
  refine st rfl rfl (e_assign rfl) ?_
  refine stEnd (hK _ [(0, _), (1, _)] _ _ rfl ?_)
  clear hK K
  refine W.sR [4] fun K hK => ?_
  refine st rfl rfl (e_move rfl) ?_
  refine st rfl rfl (e_move rfl) ?_
  refine stC rfl rfl rfl (slices_IndexFunc3int3int_s _ _ _ _ _ f _ _ (by repeat (first | exact look_same | assumption | refine look_ne (by omega) ?_)) hf) ?_
  refine st rfl rfl (e_geq rfl rfl) ?_
  rw [show decide (0 ≤ (if f then (0 : Int) else -1)) = f from by cases f <;> rfl]
  refine st rfl rfl (e_assign rfl) ?_
  refine stEnd (hK _ [(4, _)] _ _ rfl ?_)
  clear hK K
  refine W.ret ?_
  refine ⟨.inr rfl, Ends.v0 (by repeat (first | exact self_old | assumption | refine set_old ?_ (by omega))) hfresh (by first | rfl | (simp [ltT, ltA, ltC, ltV]; try omega)) (res1 (resT rfl) rfl) ?_⟩
  rfl
theorem impl_allWithin_s (b m : Nat) (ro : Bool) (zs : List Int) (lo hi : Int) (H : Heap) (n : Nat) (hb : H b = some (.cells ro (ints zs))) (hl : zs.length = m) (hlen : zs.length ≤ 1048576) : Fn Try.prog 118 [.slice (some ⟨b, 0, none⟩) m 1, .int .i64 lo, .int .i64 hi] H n (.bool (zs.all fun z => within z lo hi)) (H) (n) := by
  refine Fn.intro' Try.func118 rfl (by kernel_rfl) Try.ntmps118 (by simp) (by omega) fun hfresh => ?_
  have lt_hb := lt_fresh hfresh hb
  subst hl
  show W _ _ _ ⟨[(0, _), (1, _), (2, _)], _, _⟩ _
  refine W.sR [0, 1, 2] fun K hK => ?_
  refine st rfl rfl (e_assign rfl) ?_
  refine stEnd (hK _ [(0, _), (1, _), (2, _)] _ _ rfl ?_)
  clear hK K
  refine W.seq ?_
  refine W.sR [1, 2, 9, 10, 11] fun K hK => ?_
  refine st rfl rfl (e_move rfl) ?_
  refine st rfl rfl (e_len t40 rfl) ?_
  refine st rfl rfl (e_move rfl) ?_
  refine stEnd (hK _ [(1, _), (2, _), (9, _), (10, _), (11, _)] _ _ rfl ?_)
  clear hK K
  refine W.block ?_
  refine W.ord [11, 1, 2, 9, 10] (ts' := [(11, _)] ++ [(1, _), (2, _), (9, _), (10, _)]) rfl ?_
  refine W.loopC [(11, _)] [] (fun κ V G μ => ∃ i : Nat, V = [(11, .int .i64 (i : Nat))] ∧ κ = zs.length - i ∧ (i ≤ zs.length) ∧ (∀ j, j < i → within (at1 zs j) lo hi = true)) _ ⟨0, rfl, rfl, (by first | omega | assumption | rfl | simp_all), (fun j hj => absurd hj (by omega))⟩ fun κ V G μ hinv hμ hkeep hfr => ?_
  obtain ⟨i, rfl, rfl, hi2, hq⟩ := hinv
  refine W.sR [1, 2, 9, 10, 11, 12] fun K hK => ?_
  refine st rfl rfl (e_lss rfl rfl) ?_
  refine stB (fun hb1 => ?_) (fun hb1 => ?_)
  ·
    try simp only [decide_eq_true_eq, decide_eq_false_iff_not, Bool.not_eq_true', Bool.not_eq_false', Bool.not_eq_true, Bool.not_eq_false] at hb1
    refine stEnd (hK _ [(1, _), (2, _), (9, _), (10, _), (11, _), (12, _)] _ _ rfl ?_)
    clear hK K
    refine W.seq ?_
    refine W.condT rfl ?_
    refine W.skip ?_
    refine thenN ?_
    refine W.seq ?_
    refine W.block ?_
    refine W.sR [1, 2, 8, 9, 10, 11] fun K hK => ?_
    refine st rfl rfl (e_idxSK _ t40 t3 rfl rfl rfl (by first | omega | decide)) ?_
    refine st rfl rfl (e_load1 t3 rfl rfl (by repeat (first | exact look_same | assumption | refine look_ne (by omega) ?_ | refine look_keep (by assumption) (by omega) (by simp; try omega) ?_)) (ints_at (by omega))) ?_
    refine st rfl rfl (e_assign rfl) ?_
    refine stEnd (hK _ [(1, _), (2, _), (8, _), (9, _), (10, _), (11, _)] _ _ rfl ?_)
    clear hK K
    refine W.sR [1, 2, 9, 10, 11, 19] fun K hK => ?_
    refine st rfl rfl (e_move rfl) ?_
    refine st rfl rfl (e_move rfl) ?_
    refine st rfl rfl (e_move rfl) ?_
    refine stC rfl rfl rfl (impl_within_s _ _ _ _ _ ) ?_
    refine st rfl rfl (e_not rfl) ?_
    refine stB (fun hw => ?_) (fun hw => ?_)
    ·
      try simp only [decide_eq_true_eq, decide_eq_false_iff_not, Bool.not_eq_true', Bool.not_eq_false', Bool.not_eq_true, Bool.not_eq_false] at hw
      refine stEnd (hK _ [(1, _), (2, _), (9, _), (10, _), (11, _), (19, _)] _ _ rfl ?_)
      clear hK K
      refine W.condT rfl ?_
      refine W.sR [6] fun K hK => ?_
      refine st rfl rfl (e_assign rfl) ?_
      refine stEnd (hK _ [(6, _)] _ _ rfl ?_)
      clear hK K
      refine W.ret ?_
      refine blockR ?_
      refine thenR ?_
      refine thenR ?_
      refine blockR ?_
      refine thenR ?_
      refine ⟨.inr rfl, Ends.v0 (by repeat (first | exact self_old | assumption | refine set_old ?_ (by omega) | refine keep_old (by assumption) ?_ (by omega) (by simp; try omega))) hfresh (by first | rfl | (simp [ltT, ltA, ltC, ltV]; try omega)) (res1 (resT rfl) rfl) ?_⟩
      first | rw [all1_yes (fun j hj => hq j (by omega))] | rw [all1_no (i := i) (by omega) hw]
    ·
      try simp only [decide_eq_true_eq, decide_eq_false_iff_not, Bool.not_eq_true', Bool.not_eq_false', Bool.not_eq_true, Bool.not_eq_false] at hw
      refine stEnd (hK _ [(1, _), (2, _), (9, _), (10, _), (11, _), (19, _)] _ _ rfl ?_)
      clear hK K
      refine W.condF rfl ?_
      refine W.skip ?_
      refine blockN ?_
      refine thenN ?_
      refine W.rR [11, 1, 2, 9, 10] fun K hK => ?_
      refine st rfl rfl (e_add rfl rfl (inB _ (by omega))) ?_
      refine st rfl rfl (e_move rfl) ?_
      refine stEnd (hK _ [(11, _), (1, _), (2, _), (9, _), (10, _)] _ _ rfl ?_)
      clear hK K
      exact roundN (V' := [(11, _)]) [11, 1, 2, 9, 10] rfl (by omega) (by repeat (first | exact Keeps.refl _ _ _ | assumption | refine Keeps.trans ?_ (by assumption) (by omega) (by simp; try omega) | refine Keeps.set ?_ (by first | exact Or.inl (by omega) | (simp; done) | (simp; omega)) | refine Keeps.del ?_ (by first | exact Or.inl (by omega) | (simp; done) | (simp; omega)))) _ (by omega) ⟨i + 1, rfl, rfl, (by first | omega | assumption | simp_all), (all_succ hq (by assumption))⟩
  ·
    try simp only [decide_eq_true_eq, decide_eq_false_iff_not, Bool.not_eq_true', Bool.not_eq_false', Bool.not_eq_true, Bool.not_eq_false] at hb1
    refine stEnd (hK _ [(1, _), (2, _), (9, _), (10, _), (11, _), (12, _)] _ _ rfl ?_)
    clear hK K
    refine W.seq ?_
    refine W.condF rfl ?_
    refine W.exit ?_
    refine thenE ?_
    refine thenE ?_
    refine blockX ?_
    refine thenN ?_
    refine W.sR [6] fun K hK => ?_
    refine st rfl rfl (e_assign rfl) ?_
    refine stEnd (hK _ [(6, _)] _ _ rfl ?_)
    clear hK K
    refine W.ret ?_
    refine ⟨.inr rfl, Ends.v0 (by repeat (first | exact self_old | assumption | refine set_old ?_ (by omega) | refine keep_old (by assumption) ?_ (by omega) (by simp; try omega))) hfresh (by first | rfl | (simp [ltT, ltA, ltC, ltV]; try omega)) (res1 (resT rfl) rfl) ?_⟩
    first | rw [all1_yes (fun j hj => hq j (by omega))] | rw [all1_no (i := i) (by omega) hw]
theorem impl_IsPiece_s (b : Nat) (ro : Bool) (ps : List C) (H : Heap) (n : Nat) (hb : H b = some (.cells ro (flat ps))) (hlen : ps.length ≤ 1048576) : Fn Try.prog 117 [.slice (some ⟨b, 0, none⟩) ps.length 3] H n (.bool (pieceB ps)) (H) (n) := by
  refine Fn.intro' Try.func117 rfl (by kernel_rfl) Try.ntmps117 (by simp) (by omega) fun hfresh => ?_
  have lt_hb := lt_fresh hfresh hb
  show W _ _ _ ⟨[(0, _)], _, _⟩ _
  refine W.sR [0] fun K hK => ?_
  refine st rfl rfl (e_assign rfl) ?_
  refine stEnd (hK _ [(0, _)] _ _ rfl ?_)
  clear hK K
  refine W.seq ?_
  refine W.sR [0, 9] fun K hK => ?_
  refine st rfl rfl (e_move rfl) ?_
  refine st rfl rfl (e_len t22 rfl) ?_
  refine stC rfl rfl rfl (impl_within_s _ _ _ _ _ ) ?_
  refine st rfl rfl (e_not rfl) ?_
  refine stB (fun h15 => ?_) (fun h15 => ?_)
  ·
    try simp only [decide_eq_true_eq, decide_eq_false_iff_not, Bool.not_eq_true', Bool.not_eq_false', Bool.not_eq_true, Bool.not_eq_false] at h15
    refine stEnd (hK _ [(0, _), (9, _)] _ _ rfl ?_)
    clear hK K
    refine W.condT rfl ?_
    refine W.sR [2] fun K hK => ?_
    refine st rfl rfl (e_assign rfl) ?_
    refine stEnd (hK _ [(2, _)] _ _ rfl ?_)
    clear hK K
    refine W.ret ?_
    refine thenR ?_
    refine ⟨.inr rfl, Ends.v0 (by repeat (first | exact self_old | assumption | refine set_old ?_ (by omega) | refine keep_old (by assumption) ?_ (by omega) (by simp; try omega))) hfresh (by first | rfl | (simp [ltT, ltA, ltC, ltV]; try omega)) (res1 (resT rfl) rfl) ?_⟩
    first | rfl | first | rw [within_15n h15] | rw [pieceB_no (i := i) (by omega) (by first | exact pOk_no1 (by assumption) | exact pOk_no2 (by omega) (by assumption) | exact pOk_no3 (by omega) (by assumption))]
  ·
    try simp only [decide_eq_true_eq, decide_eq_false_iff_not, Bool.not_eq_true', Bool.not_eq_false', Bool.not_eq_true, Bool.not_eq_false] at h15
    have h1 := within_15 h15
    refine stEnd (hK _ [(0, _), (9, _)] _ _ rfl ?_)
    clear hK K
    refine W.condF rfl ?_
    refine W.skip ?_
    refine thenN ?_
    refine W.sR [0, 3] fun K hK => ?_
    refine st rfl rfl (e_move rfl) ?_
    refine st rfl rfl (e_idxSK (0) t22 t25 rfl rfl rfl (by omega)) ?_
    refine st rfl rfl (e_loadP t25 rfl rfl (by repeat (first | exact look_same | assumption | refine look_ne (by omega) ?_ | refine look_keep (by assumption) (by omega) (by simp; try omega) ?_)) (flat_at (k := 0) (by omega))) ?_
    refine st rfl rfl (e_alloc t25 rfl) ?_
    refine stN rfl (e_storeA t25 rfl rfl (by repeat (first | exact look_same | assumption | refine look_ne (by omega) ?_ | refine look_keep (by assumption) (by omega) (by simp; try omega) ?_)) rfl rfl rfl (by decide)) ?_
    refine stEnd (hK _ [(0, _), (3, _)] _ _ rfl ?_)
    clear hK K
    refine W.seq ?_
    refine W.sR [0, 3, 13, 14, 15] fun K hK => ?_
    refine st rfl rfl (e_move rfl) ?_
    refine st rfl rfl (e_len t22 rfl) ?_
    refine st rfl rfl (e_move rfl) ?_
    refine stEnd (hK _ [(0, _), (3, _), (13, _), (14, _), (15, _)] _ _ rfl ?_)
    clear hK K
    refine W.block ?_
    refine W.ord [15, 0, 3, 13, 14] (ts' := [(15, _)] ++ [(0, _), (3, _), (13, _), (14, _)]) rfl ?_
    refine W.loopC [(15, _)] [n] (fun κ V G μ => ∃ i : Nat, V = [(15, .int .i64 (i : Nat))] ∧ κ = ps.length - i ∧ (i ≤ ps.length) ∧ (∀ j, j < i → pOk ps j = true) ∧ (G n = some (.cells false (tri (lowN ps i))))) _ ⟨0, rfl, rfl, (by first | omega | assumption | rfl | simp_all), (fun j hj => absurd hj (by omega)), (by rw [lowN_zero]; exact (by repeat (first | exact look_same | assumption | refine look_ne (by omega) ?_ | refine look_keep (by assumption) (by omega) (by simp; try omega) ?_)))⟩ fun κ V G μ hinv hμ hkeep hfr => ?_
    obtain ⟨i, rfl, rfl, hi, hq, hl⟩ := hinv
    refine W.sR [0, 3, 13, 14, 15, 16] fun K hK => ?_
    refine st rfl rfl (e_lss rfl rfl) ?_
    refine stB (fun hb2 => ?_) (fun hb2 => ?_)
    ·
      try simp only [decide_eq_true_eq, decide_eq_false_iff_not, Bool.not_eq_true', Bool.not_eq_false', Bool.not_eq_true, Bool.not_eq_false] at hb2
      refine stEnd (hK _ [(0, _), (3, _), (13, _), (14, _), (15, _), (16, _)] _ _ rfl ?_)
      clear hK K
      refine W.seq ?_
      refine W.condT rfl ?_
      refine W.skip ?_
      refine thenN ?_
      refine W.seq ?_
      refine W.block ?_
      refine W.sR [0, 3, 4, 5, 13, 14, 15] fun K hK => ?_
      refine st rfl rfl (e_move rfl) ?_
      refine st rfl rfl (e_idxSK _ t22 t25 rfl rfl rfl (by first | omega | decide)) ?_
      refine st rfl rfl (e_loadP t25 rfl rfl (by repeat (first | exact look_same | assumption | refine look_ne (by omega) ?_ | refine look_keep (by assumption) (by omega) (by simp; try omega) ?_)) (flat_at (by omega))) ?_
      refine st rfl rfl (e_alloc t25 rfl) ?_
      refine st rfl rfl (e_assign rfl) ?_
      refine stN rfl (e_storeA t25 rfl rfl (by repeat (first | exact look_same | assumption | refine look_ne (by omega) ?_ | refine look_keep (by assumption) (by omega) (by simp; try omega) ?_)) rfl rfl rfl (by decide)) ?_
      refine stEnd (hK _ [(0, _), (3, _), (4, _), (5, _), (13, _), (14, _), (15, _)] _ _ rfl ?_)
      clear hK K
      refine W.seq ?_
      refine W.sD [0, 3, 5, 13, 14, 15, 36] [0, 1, 3, 7, 15, 31, 63, 127, 127, 383, 1023, 2047, 127, 8191, 16383, 32767, 65535] (by kernel_rfl) (by kernel_rfl) fun K hK => ?_
      refine dLs rfl rfl rfl (by omega) (accB_ok rfl) (e_sliceA t25 t3 rfl (by repeat (first | exact look_same | assumption | refine look_ne (by omega) ?_ | refine look_keep (by assumption) (by omega) (by simp; try omega) ?_)) (by first | (simp; done) | (simp only [tri, List.length_cons, List.length_nil]; omega))) ?_
      refine dC rfl rfl rfl rfl (impl_allWithin_s _ 3 _ [(at3 ps i).1, (at3 ps i).2.1, (at3 ps i).2.2] _ _ _ _ (by repeat (first | exact look_same | assumption | refine look_ne (by omega) ?_ | refine look_keep (by assumption) (by omega) (by simp; try omega) ?_ | refine look_hide (by omega) (by first | exact List.not_mem_nil | (simp [hidden, Nat.testBit]; done) | (simp [hidden, Nat.testBit]; omega)) ?_)) (by first | rfl | simp) (by simp)) (accB_ok rfl) ?_
      rw [in3_list]
      refine dP rfl rfl rfl (e_not rfl) ?_
      refine dP rfl rfl rfl (e_move rfl) ?_
      refine dB (fun hin => ?_) (fun hin => ?_)
      ·
        try simp only [decide_eq_true_eq, decide_eq_false_iff_not, Bool.not_eq_true', Bool.not_eq_false', Bool.not_eq_true, Bool.not_eq_false] at hin
        refine dS rfl rfl ?_
        refine dS rfl rfl ?_
        refine dS rfl rfl ?_
        refine dS rfl rfl ?_
        refine dS rfl rfl ?_
        refine dS rfl rfl ?_
        refine dS rfl rfl ?_
        refine dS rfl rfl ?_
        refine dS rfl rfl ?_
        refine dS rfl rfl ?_
        refine dS rfl rfl ?_
        refine dS rfl rfl ?_
        refine dP rfl rfl rfl (e_pickT rfl rfl) ?_
        refine dEnd (hK _ [(0, _), (3, _), (5, _), (13, _), (14, _), (15, _), (36, _)] _ _ rfl ?_)
        clear hK K
        refine W.condT rfl ?_
        refine W.sR [2] fun K hK => ?_
        refine st rfl rfl (e_assign rfl) ?_
        refine stEnd (hK _ [(2, _)] _ _ rfl ?_)
        clear hK K
        refine W.ret ?_
        refine thenR ?_
        refine blockR ?_
        refine thenR ?_
        refine thenR ?_
        refine blockR ?_
        refine thenR ?_
        refine ⟨.inr rfl, Ends.v0 (by repeat (first | exact self_old | assumption | refine set_old ?_ (by omega) | refine keep_old (by assumption) ?_ (by omega) (by simp; try omega))) hfresh (by first | rfl | (simp [ltT, ltA, ltC, ltV]; try omega)) (res1 (resT rfl) rfl) ?_⟩
        first | rfl | first | rw [within_15n h15] | rw [pieceB_no (i := i) (by omega) (by first | exact pOk_no1 (by assumption) | exact pOk_no2 (by omega) (by assumption) | exact pOk_no3 (by omega) (by assumption))]
      ·
        try simp only [decide_eq_true_eq, decide_eq_false_iff_not, Bool.not_eq_true', Bool.not_eq_false', Bool.not_eq_true, Bool.not_eq_false] at hin
        refine dP rfl rfl rfl (e_move rfl) ?_
        refine dP rfl rfl rfl (e_gtr rfl rfl) ?_
        refine dP rfl rfl rfl (e_move rfl) ?_
        refine dB (fun hb4 => ?_) (fun hb4 => ?_)
        ·
          try simp only [decide_eq_true_eq, decide_eq_false_iff_not, Bool.not_eq_true', Bool.not_eq_false', Bool.not_eq_true, Bool.not_eq_false] at hb4
          refine dP rfl rfl rfl (e_move rfl) ?_
          refine dP rfl rfl rfl (e_move rfl) ?_
          refine dP rfl rfl rfl (e_sub rfl rfl (inB _ (by omega))) ?_
          refine dP rfl rfl rfl (e_idxSK (i - 1) t22 t25 rfl rfl (by first | rfl | omega) (by first | omega | decide)) ?_
          refine dL rfl rfl rfl (by omega) (accB_ok rfl) (e_loadP t25 rfl rfl (by repeat (first | exact look_same | assumption | refine look_ne (by omega) ?_ | refine look_keep (by assumption) (by omega) (by simp; try omega) ?_)) (flat_at (by omega))) ?_
          refine dL rfl rfl rfl (by omega) (accB_ok rfl) (e_loadA t25 rfl rfl (by repeat (first | exact look_same | assumption | refine look_ne (by omega) ?_ | refine look_keep (by assumption) (by omega) (by simp; try omega) ?_)) rfl rfl) ?_
          refine dC rfl rfl rfl rfl (impl_compareCells_s _ _ _ _ ) (accB_ok rfl) ?_
          refine dP rfl rfl rfl (e_geq rfl rfl) ?_
          refine dP rfl rfl rfl (e_pickT rfl rfl) ?_
          refine dP rfl rfl rfl (e_pickF rfl rfl) ?_
          refine dB (fun hb5 => ?_) (fun hb5 => ?_)
          ·
            try simp only [decide_eq_true_eq, decide_eq_false_iff_not, Bool.not_eq_true', Bool.not_eq_false', Bool.not_eq_true, Bool.not_eq_false] at hb5
            refine dEnd (hK _ [(0, _), (3, _), (5, _), (13, _), (14, _), (15, _), (36, _)] _ _ rfl ?_)
            clear hK K
            refine W.condT rfl ?_
            refine W.sR [2] fun K hK => ?_
            refine st rfl rfl (e_assign rfl) ?_
            refine stEnd (hK _ [(2, _)] _ _ rfl ?_)
            clear hK K
            refine W.ret ?_
            refine thenR ?_
            refine blockR ?_
            refine thenR ?_
            refine thenR ?_
            refine blockR ?_
            refine thenR ?_
            refine ⟨.inr rfl, Ends.v0 (by repeat (first | exact self_old | assumption | refine set_old ?_ (by omega) | refine keep_old (by assumption) ?_ (by omega) (by simp; try omega))) hfresh (by first | rfl | (simp [ltT, ltA, ltC, ltV]; try omega)) (res1 (resT rfl) rfl) ?_⟩
            first | rfl | first | rw [within_15n h15] | rw [pieceB_no (i := i) (by omega) (by first | exact pOk_no1 (by assumption) | exact pOk_no2 (by omega) (by assumption) | exact pOk_no3 (by omega) (by assumption))]
          ·
            try simp only [decide_eq_true_eq, decide_eq_false_iff_not, Bool.not_eq_true', Bool.not_eq_false', Bool.not_eq_true, Bool.not_eq_false] at hb5
            refine dEnd (hK _ [(0, _), (3, _), (5, _), (13, _), (14, _), (15, _), (36, _)] _ _ rfl ?_)
            clear hK K
            refine W.condF rfl ?_
            refine W.skip ?_
            refine thenN ?_
            refine W.rR [0, 3, 13, 14, 15] fun K hK => ?_
            refine st rfl rfl (e_idxAK (0) t25 t3 rfl rfl (by first | rfl | omega) (by first | omega | decide)) ?_
            refine st rfl rfl (e_load1 t3 rfl rfl (by repeat (first | exact look_same | assumption | refine look_ne (by omega) ?_ | refine look_keep (by assumption) (by omega) (by simp; try omega) ?_)) (by first | rfl | exact tri_getL (by omega))) ?_
            refine st rfl rfl (e_idxAK (0) t25 t3 rfl rfl (by first | rfl | omega) (by first | omega | decide)) ?_
            refine st rfl rfl (e_load1 t3 rfl rfl (by repeat (first | exact look_same | assumption | refine look_ne (by omega) ?_ | refine look_keep (by assumption) (by omega) (by simp; try omega) ?_)) (by first | rfl | exact tri_getL (by omega))) ?_
            refine st rfl rfl (e_min2 rfl rfl) ?_
            refine st rfl rfl (e_idxAK (1) t25 t3 rfl rfl (by first | rfl | omega) (by first | omega | decide)) ?_
            refine st rfl rfl (e_load1 t3 rfl rfl (by repeat (first | exact look_same | assumption | refine look_ne (by omega) ?_ | refine look_keep (by assumption) (by omega) (by simp; try omega) ?_)) (by first | rfl | exact tri_getL (by omega))) ?_
            refine st rfl rfl (e_idxAK (1) t25 t3 rfl rfl (by first | rfl | omega) (by first | omega | decide)) ?_
            refine st rfl rfl (e_load1 t3 rfl rfl (by repeat (first | exact look_same | assumption | refine look_ne (by omega) ?_ | refine look_keep (by assumption) (by omega) (by simp; try omega) ?_)) (by first | rfl | exact tri_getL (by omega))) ?_
            refine st rfl rfl (e_min2 rfl rfl) ?_
            refine st rfl rfl (e_idxAK (2) t25 t3 rfl rfl (by first | rfl | omega) (by first | omega | decide)) ?_
            refine st rfl rfl (e_load1 t3 rfl rfl (by repeat (first | exact look_same | assumption | refine look_ne (by omega) ?_ | refine look_keep (by assumption) (by omega) (by simp; try omega) ?_)) (by first | rfl | exact tri_getL (by omega))) ?_
            refine st rfl rfl (e_idxAK (2) t25 t3 rfl rfl (by first | rfl | omega) (by first | omega | decide)) ?_
            refine st rfl rfl (e_load1 t3 rfl rfl (by repeat (first | exact look_same | assumption | refine look_ne (by omega) ?_ | refine look_keep (by assumption) (by omega) (by simp; try omega) ?_)) (by first | rfl | exact tri_getL (by omega))) ?_
            refine st rfl rfl (e_min2 rfl rfl) ?_
            refine st rfl rfl (e_build rfl rfl (bld25_0_1_2 _ _ _ rfl rfl rfl)) ?_
            refine stN rfl (e_storeA t25 rfl rfl (by repeat (first | exact look_same | assumption | refine look_ne (by omega) ?_ | refine look_keep (by assumption) (by omega) (by simp; try omega) ?_)) rfl rfl rfl (by decide)) ?_
            refine stEnd (hK _ [(0, _), (3, _), (13, _), (14, _), (15, _)] _ _ rfl ?_)
            clear hK K
            refine blockN ?_
            refine thenN ?_
            refine W.rR [15, 0, 3, 13, 14] fun K hK => ?_
            refine st rfl rfl (e_add rfl rfl (inB _ (by omega))) ?_
            refine st rfl rfl (e_move rfl) ?_
            refine stEnd (hK _ [(15, _), (0, _), (3, _), (13, _), (14, _)] _ _ rfl ?_)
            clear hK K
            exact roundN (V' := [(15, _)]) [15, 0, 3, 13, 14] rfl (by omega) (by repeat (first | exact Keeps.refl _ _ _ | assumption | refine Keeps.trans ?_ (by assumption) (by omega) (by simp; try omega) | refine Keeps.set ?_ (by first | exact Or.inl (by omega) | (simp; done) | (simp; omega)) | refine Keeps.del ?_ (by first | exact Or.inl (by omega) | (simp; done) | (simp; omega)))) _ (by omega) ⟨i + 1, rfl, rfl, (by first | omega | assumption | simp_all), (all_succ hq (by first | exact pOk_yes1 (by assumption) (by omega) | exact pOk_yes2 (by assumption) (by assumption) | exact pOk_yes3 (by assumption) (by assumption))), (look_same.trans (congrArg some (congrArg (Blk.cells false) (congrArg tri (lowN_succ (by omega))))))⟩
        ·
          try simp only [decide_eq_true_eq, decide_eq_false_iff_not, Bool.not_eq_true', Bool.not_eq_false', Bool.not_eq_true, Bool.not_eq_false] at hb4
          refine dS rfl rfl ?_
          refine dS rfl rfl ?_
          refine dS rfl rfl ?_
          refine dS rfl rfl ?_
          refine dS rfl rfl ?_
          refine dS rfl rfl ?_
          refine dS rfl rfl ?_
          refine dS rfl rfl ?_
          refine dP rfl rfl rfl (e_pickF rfl rfl) ?_
          refine dP rfl rfl rfl (e_pickF rfl rfl) ?_
          refine dEnd (hK _ [(0, _), (3, _), (5, _), (13, _), (14, _), (15, _), (36, _)] _ _ rfl ?_)
          clear hK K
          refine W.condF rfl ?_
          refine W.skip ?_
          refine thenN ?_
          refine W.rR [0, 3, 13, 14, 15] fun K hK => ?_
          refine st rfl rfl (e_idxAK (0) t25 t3 rfl rfl (by first | rfl | omega) (by first | omega | decide)) ?_
          refine st rfl rfl (e_load1 t3 rfl rfl (by repeat (first | exact look_same | assumption | refine look_ne (by omega) ?_ | refine look_keep (by assumption) (by omega) (by simp; try omega) ?_)) (by first | rfl | exact tri_getL (by omega))) ?_
          refine st rfl rfl (e_idxAK (0) t25 t3 rfl rfl (by first | rfl | omega) (by first | omega | decide)) ?_
          refine st rfl rfl (e_load1 t3 rfl rfl (by repeat (first | exact look_same | assumption | refine look_ne (by omega) ?_ | refine look_keep (by assumption) (by omega) (by simp; try omega) ?_)) (by first | rfl | exact tri_getL (by omega))) ?_
          refine st rfl rfl (e_min2 rfl rfl) ?_
          refine st rfl rfl (e_idxAK (1) t25 t3 rfl rfl (by first | rfl | omega) (by first | omega | decide)) ?_
          refine st rfl rfl (e_load1 t3 rfl rfl (by repeat (first | exact look_same | assumption | refine look_ne (by omega) ?_ | refine look_keep (by assumption) (by omega) (by simp; try omega) ?_)) (by first | rfl | exact tri_getL (by omega))) ?_
          refine st rfl rfl (e_idxAK (1) t25 t3 rfl rfl (by first | rfl | omega) (by first | omega | decide)) ?_
          refine st rfl rfl (e_load1 t3 rfl rfl (by repeat (first | exact look_same | assumption | refine look_ne (by omega) ?_ | refine look_keep (by assumption) (by omega) (by simp; try omega) ?_)) (by first | rfl | exact tri_getL (by omega))) ?_
          refine st rfl rfl (e_min2 rfl rfl) ?_
          refine st rfl rfl (e_idxAK (2) t25 t3 rfl rfl (by first | rfl | omega) (by first | omega | decide)) ?_
          refine st rfl rfl (e_load1 t3 rfl rfl (by repeat (first | exact look_same | assumption | refine look_ne (by omega) ?_ | refine look_keep (by assumption) (by omega) (by simp; try omega) ?_)) (by first | rfl | exact tri_getL (by omega))) ?_
          refine st rfl rfl (e_idxAK (2) t25 t3 rfl rfl (by first | rfl | omega) (by first | omega | decide)) ?_
          refine st rfl rfl (e_load1 t3 rfl rfl (by repeat (first | exact look_same | assumption | refine look_ne (by omega) ?_ | refine look_keep (by assumption) (by omega) (by simp; try omega) ?_)) (by first | rfl | exact tri_getL (by omega))) ?_
          refine st rfl rfl (e_min2 rfl rfl) ?_
          refine st rfl rfl (e_build rfl rfl (bld25_0_1_2 _ _ _ rfl rfl rfl)) ?_
          refine stN rfl (e_storeA t25 rfl rfl (by repeat (first | exact look_same | assumption | refine look_ne (by omega) ?_ | refine look_keep (by assumption) (by omega) (by simp; try omega) ?_)) rfl rfl rfl (by decide)) ?_
          refine stEnd (hK _ [(0, _), (3, _), (13, _), (14, _), (15, _)] _ _ rfl ?_)
          clear hK K
          refine blockN ?_
          refine thenN ?_
          refine W.rR [15, 0, 3, 13, 14] fun K hK => ?_
          refine st rfl rfl (e_add rfl rfl (inB _ (by omega))) ?_
          refine st rfl rfl (e_move rfl) ?_
          refine stEnd (hK _ [(15, _), (0, _), (3, _), (13, _), (14, _)] _ _ rfl ?_)
          clear hK K
          exact roundN (V' := [(15, _)]) [15, 0, 3, 13, 14] rfl (by omega) (by repeat (first | exact Keeps.refl _ _ _ | assumption | refine Keeps.trans ?_ (by assumption) (by omega) (by simp; try omega) | refine Keeps.set ?_ (by first | exact Or.inl (by omega) | (simp; done) | (simp; omega)) | refine Keeps.del ?_ (by first | exact Or.inl (by omega) | (simp; done) | (simp; omega)))) _ (by omega) ⟨i + 1, rfl, rfl, (by first | omega | assumption | simp_all), (all_succ hq (by first | exact pOk_yes1 (by assumption) (by omega) | exact pOk_yes2 (by assumption) (by assumption) | exact pOk_yes3 (by assumption) (by assumption))), (look_same.trans (congrArg some (congrArg (Blk.cells false) (congrArg tri (lowN_succ (by omega))))))⟩
    ·
      try simp only [decide_eq_true_eq, decide_eq_false_iff_not, Bool.not_eq_true', Bool.not_eq_false', Bool.not_eq_true, Bool.not_eq_false] at hb2
      refine stEnd (hK _ [(0, _), (3, _), (13, _), (14, _), (15, _), (16, _)] _ _ rfl ?_)
      clear hK K
      refine W.seq ?_
      refine W.condF rfl ?_
      refine W.exit ?_
      refine thenE ?_
      refine thenE ?_
      refine blockX ?_
      refine thenN ?_
      rw [pieceB_fin h1 (fun j hj => hq j (by omega))]
      obtain rfl : i = ps.length := by omega
      refine W.sR [2] fun K hK => ?_
      refine st rfl rfl (e_loadA t25 rfl rfl (by repeat (first | exact look_same | assumption | refine look_ne (by omega) ?_ | refine look_keep (by assumption) (by omega) (by simp; try omega) ?_)) rfl rfl) ?_
      refine st rfl rfl (e_build rfl rfl (bld25_ )) ?_
      refine st rfl rfl (e_eqA3 (a := lowN ps ps.length) (b := (0, 0, 0)) t25 t3 rfl rfl) ?_
      refine st rfl rfl (e_assign rfl) ?_
      refine stEnd (hK _ [(2, _)] _ _ rfl ?_)
      clear hK K
      refine W.ret ?_
      refine ⟨.inr rfl, Ends.v0 (by repeat (first | exact self_old | assumption | refine set_old ?_ (by omega) | refine keep_old (by assumption) ?_ (by omega) (by simp; try omega))) hfresh (by first | rfl | (simp [ltT, ltA, ltC, ltV]; try omega)) (res1 (resT rfl) rfl) ?_⟩
      first | rfl | first | rw [within_15n h15] | rw [pieceB_no (i := i) (by omega) (by first | exact pOk_no1 (by assumption) | exact pOk_no2 (by omega) (by assumption) | exact pOk_no3 (by omega) (by assumption))]
theorem impl_isPacked_1_s (b : Nat) (ro : Bool) (ps : List C) (H : Heap) (n : Nat) (hb : H b = some (.cells ro (flat ps))) (hlen : ps.length ≤ 1048576) : Fn Try.prog 116 [.slice (some ⟨b, 0, none⟩) ps.length 3] H n (.bool (!pieceB ps)) (H) (n) := by
  refine Fn.intro' Try.func116 rfl (by kernel_rfl) Try.ntmps116 (by simp) (by omega) fun hfresh => ?_
  have lt_hb := lt_fresh hfresh hb
  show W _ _ _ ⟨[(0, _)], _, _⟩ _
  refine W.sR [0] fun K hK => ?_
  refine st rfl rfl (e_assign rfl) ?_
  refine stEnd (hK _ [(0, _)] _ _ rfl ?_)
  clear hK K
  refine W.sR [2] fun K hK => ?_
  refine st rfl rfl (e_move rfl) ?_
  refine stC rfl rfl rfl (impl_IsPiece_s _ _ _ _ _ (by repeat (first | exact look_same | assumption | refine look_ne (by omega) ?_)) (by omega)) ?_
  refine st rfl rfl (e_not rfl) ?_
  refine st rfl rfl (e_assign rfl) ?_
  refine stEnd (hK _ [(2, _)] _ _ rfl ?_)
  clear hK K
  refine W.ret ?_
  refine ⟨.inr rfl, Ends.v0 (by repeat (first | exact self_old | assumption | refine set_old ?_ (by omega))) hfresh (by first | rfl | (simp [ltT, ltA, ltC, ltV]; try omega)) (res1 (resT rfl) rfl) ?_⟩
  rfl
theorem impl_isPacked_s (X Y Z : Int) (b : Nat) (ro : Bool) (cs : List C) (tb d : Nat) (ro2 : Bool) (ps : List C) (H : Heap) (n : Nat) (hb : H b = some (.cells ro (flat cs))) (hlen : cs.length ≤ 1048576) (htb : H tb = some (.cells false [.slice (some ⟨d, 0, none⟩) ps.length 3])) (hd : H d = some (.cells ro2 (flat ps))) (hdl : ps.length ≤ 1048576) : Fn Try.prog 60 [.agg #[.int .i64 X, .int .i64 Y, .int .i64 Z, .slice (some ⟨b, 0, none⟩) cs.length 3], .slice (some ⟨tb, 0, none⟩) 1 1] H n (.bool (isHeap X Y Z cs && pieceB ps)) (H) (n) := by
  refine Fn.intro' Try.func60 rfl (by kernel_rfl) Try.ntmps60 (by simp) (by omega) fun hfresh => ?_
  have lt_hb := lt_fresh hfresh hb
  have lt_htb := lt_fresh hfresh htb
  have lt_hd := lt_fresh hfresh hd
  show W _ _ _ ⟨[(0, _), (1, _)], _, _⟩ _
  refine W.sR [1, 2] fun K hK => ?_
  refine st rfl rfl (e_boxA rfl) ?_
  refine st rfl rfl (e_assign rfl) ?_
  refine stEnd (hK _ [(1, _), (2, _)] _ _ rfl ?_)
  clear hK K
  refine W.sR [4] fun K hK => ?_
  refine st rfl rfl (e_loadA t30 rfl rfl (by repeat (first | exact look_same | assumption | refine look_ne (by omega) ?_)) rfl rfl) ?_
  refine stC rfl rfl rfl (impl_IsHeap_s _ _ _ _ _ _ _ _ (by repeat (first | exact look_same | assumption | refine look_ne (by omega) ?_)) (by omega)) ?_
  refine st rfl rfl (e_move rfl) ?_
  refine stB (fun hh => ?_) (fun hh => ?_)
  ·
    try simp only [decide_eq_true_eq, decide_eq_false_iff_not, Bool.not_eq_true', Bool.not_eq_false', Bool.not_eq_true, Bool.not_eq_false] at hh
    refine st rfl rfl (e_move rfl) ?_
    refine stC rfl rfl rfl (slices_ContainsFunc3int3int_s _ _ _ _ [] (!pieceB ps) _ _ (by repeat (first | exact look_same | assumption | refine look_ne (by omega) ?_)) (fun G m hm hG => impl_isPacked_1_s d ro2 ps G m (hG _ _ (by omega) (by repeat (first | exact look_same | assumption | refine look_ne (by omega) ?_ | refine look_keep (by assumption) (by omega) (by simp; try omega) ?_))) hdl)) ?_
    refine st rfl rfl (e_not rfl) ?_
    rw [Bool.not_not]
    refine st rfl rfl (e_pickT rfl rfl) ?_
    refine st rfl rfl (e_assign rfl) ?_
    refine stEnd (hK _ [(4, _)] _ _ rfl ?_)
    clear hK K
    refine W.ret ?_
    refine ⟨.inr rfl, Ends.v0 (by repeat (first | exact self_old | assumption | refine set_old ?_ (by omega))) hfresh (by first | rfl | (simp [ltT, ltA, ltC, ltV]; try omega)) (res1 (resT rfl) rfl) ?_⟩
    simp [hh]
  ·
    try simp only [decide_eq_true_eq, decide_eq_false_iff_not, Bool.not_eq_true', Bool.not_eq_false', Bool.not_eq_true, Bool.not_eq_false] at hh
    refine stS rfl rfl ?_
    refine stS rfl rfl ?_
    refine stS rfl rfl ?_
    refine st rfl rfl (e_pickF rfl rfl) ?_
    refine st rfl rfl (e_assign rfl) ?_
    refine stEnd (hK _ [(4, _)] _ _ rfl ?_)
    clear hK K
    refine W.ret ?_
    refine ⟨.inr rfl, Ends.v0 (by repeat (first | exact self_old | assumption | refine set_old ?_ (by omega))) hfresh (by first | rfl | (simp [ltT, ltA, ltC, ltV]; try omega)) (res1 (resT rfl) rfl) ?_⟩
    simp [hh]
theorem impl_box_size_s (X Y Z : Int) (H : Heap) (n : Nat) (hX : (1 ≤ X ∧ X ≤ 4) ∧ (1 ≤ Y ∧ Y ≤ 4) ∧ (1 ≤ Z ∧ Z ≤ 4)) : Fn Try.prog 139 [.agg #[.int .i64 X, .int .i64 Y, .int .i64 Z]] H n (.int .i64 ((vol X Y Z : Nat) : Int)) (H) (n) := by
  refine Fn.intro' Try.func139 rfl (by kernel_rfl) Try.ntmps139 (by simp) (by omega) fun hfresh => ?_
  have hv := vol_cast hX
  have hv2 := vol_le hX
  have hxy := mulXY hX.1 hX.2.1
  show W _ _ _ ⟨[(0, _)], _, _⟩ _
  refine W.sR [1] fun K hK => ?_
  refine st rfl rfl (e_boxA rfl) ?_
  refine st rfl rfl (e_assign rfl) ?_
  refine stEnd (hK _ [(1, _)] _ _ rfl ?_)
  clear hK K
  refine W.sR [2] fun K hK => ?_
  refine st rfl rfl (e_idxAK (0) t73 t3 rfl rfl (by first | rfl | omega) (by first | omega | decide)) ?_
  refine st rfl rfl (e_load1 t3 rfl rfl (by repeat (first | exact look_same | assumption | refine look_ne (by omega) ?_)) (by first | rfl | exact tri_getL (by omega))) ?_
  refine st rfl rfl (e_idxAK (1) t73 t3 rfl rfl (by first | rfl | omega) (by first | omega | decide)) ?_
  refine st rfl rfl (e_load1 t3 rfl rfl (by repeat (first | exact look_same | assumption | refine look_ne (by omega) ?_)) (by first | rfl | exact tri_getL (by omega))) ?_
  refine st rfl rfl (e_mul rfl rfl (inB _ (by omega))) ?_
  refine st rfl rfl (e_idxAK (2) t73 t3 rfl rfl (by first | rfl | omega) (by first | omega | decide)) ?_
  refine st rfl rfl (e_load1 t3 rfl rfl (by repeat (first | exact look_same | assumption | refine look_ne (by omega) ?_)) (by first | rfl | exact tri_getL (by omega))) ?_
  refine st rfl rfl (e_mul rfl rfl (inB _ (by omega))) ?_
  refine st rfl rfl (e_assign rfl) ?_
  refine stEnd (hK _ [(2, _)] _ _ rfl ?_)
  clear hK K
  refine W.ret ?_
  refine ⟨.inr rfl, Ends.v0 (by repeat (first | exact self_old | assumption | refine set_old ?_ (by omega))) hfresh (by first | rfl | (simp [ltT, ltA, ltC, ltV]; try omega)) (res1 (resT rfl) rfl) ?_⟩
  rw [← hv]
theorem impl_box_full_s (X Y Z : Int) (H : Heap) (n : Nat) (hX : (1 ≤ X ∧ X ≤ 4) ∧ (1 ≤ Y ∧ Y ≤ 4) ∧ (1 ≤ Z ∧ Z ≤ 4)) : Fn Try.prog 120 [.agg #[.int .i64 X, .int .i64 Y, .int .i64 Z]] H n (U (((1#64 : BitVec 64) <<< vol X Y Z - 1#64))) (H) (n) := by
  refine Fn.intro' Try.func120 rfl (by kernel_rfl) Try.ntmps120 (by simp) (by omega) fun hfresh => ?_
  have hvl := vol_le hX
  show W _ _ _ ⟨[(0, _)], _, _⟩ _
  refine W.sR [1] fun K hK => ?_
  refine st rfl rfl (e_boxA rfl) ?_
  refine st rfl rfl (e_assign rfl) ?_
  refine stEnd (hK _ [(1, _)] _ _ rfl ?_)
  clear hK K
  refine W.sR [2] fun K hK => ?_
  refine st rfl rfl (e_loadA t73 rfl rfl (by repeat (first | exact look_same | assumption | refine look_ne (by omega) ?_)) rfl rfl) ?_
  refine stC rfl rfl rfl (impl_box_size_s _ _ _ _ _ (by omega)) ?_
  refine st rfl rfl (e_shlU (vol X Y Z) (ev_cU (k := 1) (by decide) rfl) rfl rfl) ?_
  refine st rfl rfl (e_subU rfl (ev_cU (k := 1) (by decide) rfl)) ?_
  refine st rfl rfl (e_assign rfl) ?_
  refine stEnd (hK _ [(2, _)] _ _ rfl ?_)
  clear hK K
  refine W.ret ?_
  refine ⟨.inr rfl, Ends.v0 (by repeat (first | exact self_old | assumption | refine set_old ?_ (by omega))) hfresh (by first | rfl | (simp [ltT, ltA, ltC, ltV]; try omega)) (res1 (resT rfl) rfl) ?_⟩
  rfl
theorem impl_box_index_s (X Y Z : Int) (c : C) (H : Heap) (n : Nat) (hX : (1 ≤ X ∧ X ≤ 4) ∧ (1 ≤ Y ∧ Y ≤ 4) ∧ (1 ≤ Z ∧ Z ≤ 4)) (hc : (0 ≤ c.1 ∧ c.1 < X) ∧ (0 ≤ c.2.1 ∧ c.2.1 < Y) ∧ (0 ≤ c.2.2 ∧ c.2.2 < Z)) : Fn Try.prog 90 [.agg #[.int .i64 X, .int .i64 Y, .int .i64 Z], .agg #[.int .i64 c.1, .int .i64 c.2.1, .int .i64 c.2.2]] H n (.int .i64 ((cellIx Y Z c : Nat) : Int)) (H) (n) := by
  refine Fn.intro' Try.func90 rfl (by kernel_rfl) Try.ntmps90 (by simp) (by omega) fun hfresh => ?_
  have hm := mul_bd (a := c.1) (b := Y) (by omega) (by omega)
  have hi := ix3 hX hc
  have hx := ix2 hc.1 hc.2.1 hX.2.1
  have hmz : 0 ≤ (c.1 * Y + c.2.1) * Z ∧ (c.1 * Y + c.2.1) * Z ≤ 64 := mulZ_bd (by omega) hX.2.2
  have hk := cellIx_cast hX hc
  show W _ _ _ ⟨[(0, _), (1, _)], _, _⟩ _
  refine W.sR [2, 3] fun K hK => ?_
  refine st rfl rfl (e_boxA rfl) ?_
  refine st rfl rfl (e_boxA rfl) ?_
  refine st rfl rfl (e_assign rfl) ?_
  refine stEnd (hK _ [(2, _), (3, _)] _ _ rfl ?_)
  clear hK K
  refine W.sR [4] fun K hK => ?_
  refine st rfl rfl (e_idxAK (0) t25 t3 rfl rfl (by first | rfl | omega) (by first | omega | decide)) ?_
  refine st rfl rfl (e_load1 t3 rfl rfl (by repeat (first | exact look_same | assumption | refine look_ne (by omega) ?_)) (by first | rfl | exact tri_getL (by omega))) ?_
  refine st rfl rfl (e_idxAK (1) t73 t3 rfl rfl (by first | rfl | omega) (by first | omega | decide)) ?_
  refine st rfl rfl (e_load1 t3 rfl rfl (by repeat (first | exact look_same | assumption | refine look_ne (by omega) ?_)) (by first | rfl | exact tri_getL (by omega))) ?_
  refine st rfl rfl (e_mul rfl rfl (inB _ (by omega))) ?_
  refine st rfl rfl (e_idxAK (1) t25 t3 rfl rfl (by first | rfl | omega) (by first | omega | decide)) ?_
  refine st rfl rfl (e_load1 t3 rfl rfl (by repeat (first | exact look_same | assumption | refine look_ne (by omega) ?_)) (by first | rfl | exact tri_getL (by omega))) ?_
  refine st rfl rfl (e_add rfl rfl (inB _ (by omega))) ?_
  refine st rfl rfl (e_idxAK (2) t73 t3 rfl rfl (by first | rfl | omega) (by first | omega | decide)) ?_
  refine st rfl rfl (e_load1 t3 rfl rfl (by repeat (first | exact look_same | assumption | refine look_ne (by omega) ?_)) (by first | rfl | exact tri_getL (by omega))) ?_
  refine st rfl rfl (e_mul rfl rfl (inB _ (by omega))) ?_
  refine st rfl rfl (e_idxAK (2) t25 t3 rfl rfl (by first | rfl | omega) (by first | omega | decide)) ?_
  refine st rfl rfl (e_load1 t3 rfl rfl (by repeat (first | exact look_same | assumption | refine look_ne (by omega) ?_)) (by first | rfl | exact tri_getL (by omega))) ?_
  refine st rfl rfl (e_add rfl rfl (inB _ (by omega))) ?_
  refine st rfl rfl (e_assign rfl) ?_
  refine stEnd (hK _ [(4, _)] _ _ rfl ?_)
  clear hK K
  refine W.ret ?_
  refine ⟨.inr rfl, Ends.v0 (by repeat (first | exact self_old | assumption | refine set_old ?_ (by omega))) hfresh (by first | rfl | (simp [ltT, ltA, ltC, ltV]; try omega)) (res1 (resT rfl) rfl) ?_⟩
  rw [← hk]
theorem impl_Heap_cubes_s (X Y Z : Int) (b : Nat) (ro : Bool) (cs : List C) (H : Heap) (n : Nat) (hb : H b = some (.cells ro (flat cs))) (hlen : cs.length ≤ 1048576) (hv : Valid X Y Z cs) : Fn Try.prog 88 [.agg #[.int .i64 X, .int .i64 Y, .int .i64 Z, .slice (some ⟨b, 0, none⟩) cs.length 3]] H n (U (mask Y Z cs)) (H) (n) := by
  refine Fn.intro' Try.func88 rfl (by kernel_rfl) Try.ntmps88 (by simp) (by omega) fun hfresh => ?_
  have lt_hb := lt_fresh hfresh hb
  have hX := hv.box
  show W _ _ _ ⟨[(0, _)], _, _⟩ _
  refine W.sR [1] fun K hK => ?_
  refine st rfl rfl (e_boxA rfl) ?_
  refine st rfl rfl (e_assign rfl) ?_
  refine stEnd (hK _ [(1, _)] _ _ rfl ?_)
  clear hK K
  refine W.sR [1, 3] fun K hK => ?_
  refine st rfl rfl (e_assign rfl) ?_
  refine stEnd (hK _ [(1, _), (3, _)] _ _ rfl ?_)
  clear hK K
  refine W.seq ?_
  refine W.sR [1, 3, 7, 8, 9] fun K hK => ?_
  refine st rfl rfl (e_fieldAddr t30 t22 rfl rfl) ?_
  refine st rfl rfl (e_load1 t22 rfl rfl (by repeat (first | exact look_same | assumption | refine look_ne (by omega) ?_ | refine look_keep (by assumption) (by omega) (by simp; try omega) ?_)) rfl) ?_
  refine st rfl rfl (e_len t22 rfl) ?_
  refine st rfl rfl (e_move rfl) ?_
  refine stEnd (hK _ [(1, _), (3, _), (7, _), (8, _), (9, _)] _ _ rfl ?_)
  clear hK K
  refine W.block ?_
  refine W.ord [3, 9, 1, 7, 8] (ts' := [(3, _), (9, _)] ++ [(1, _), (7, _), (8, _)]) rfl ?_
  refine W.loopC [(3, _), (9, _)] [] (fun κ V G μ => ∃ i : Nat, V = [(3, U (maskN Y Z cs i)), (9, .int .i64 (i : Nat))] ∧ κ = cs.length - i ∧ (i ≤ cs.length)) _ ⟨0, rfl, rfl, (by first | omega | assumption | rfl | simp_all)⟩ fun κ V G μ hinv hμ hkeep hfr => ?_
  obtain ⟨i, rfl, rfl, hi⟩ := hinv
  refine W.sR [1, 3, 7, 8, 9, 10] fun K hK => ?_
  refine st rfl rfl (e_lss rfl rfl) ?_
  refine stB (fun hb1 => ?_) (fun hb1 => ?_)
  ·
    try simp only [decide_eq_true_eq, decide_eq_false_iff_not, Bool.not_eq_true', Bool.not_eq_false', Bool.not_eq_true, Bool.not_eq_false] at hb1
    refine stEnd (hK _ [(1, _), (3, _), (7, _), (8, _), (9, _), (10, _)] _ _ rfl ?_)
    clear hK K
    refine W.seq ?_
    refine W.condT rfl ?_
    refine W.skip ?_
    refine thenN ?_
    refine W.seq ?_
    refine W.block ?_
    have hc := hv.inn _ (at3_mem (show i < cs.length by omega))
    refine W.sR [1, 3, 5, 7, 8, 9] fun K hK => ?_
    refine st rfl rfl (e_idxSK _ t22 t25 rfl rfl rfl (by first | omega | decide)) ?_
    refine st rfl rfl (e_loadP t25 rfl rfl (by repeat (first | exact look_same | assumption | refine look_ne (by omega) ?_ | refine look_keep (by assumption) (by omega) (by simp; try omega) ?_)) (flat_at (by omega))) ?_
    refine st rfl rfl (e_alloc t25 rfl) ?_
    refine stN rfl (e_storeA t25 rfl rfl (by repeat (first | exact look_same | assumption | refine look_ne (by omega) ?_ | refine look_keep (by assumption) (by omega) (by simp; try omega) ?_)) rfl rfl rfl (by decide)) ?_
    refine stEnd (hK _ [(1, _), (3, _), (5, _), (7, _), (8, _), (9, _)] _ _ rfl ?_)
    clear hK K
    refine W.rD [1, 3, 7, 8, 9] [0, 0, 2, 0, 14, 30, 63, 127] (by kernel_rfl) (by kernel_rfl) fun K hK => ?_
    refine dP rfl rfl rfl (e_move rfl) ?_
    refine dL rfl rfl rfl (by omega) (accB_ok rfl) (e_loadA t30 rfl rfl (by repeat (first | exact look_same | assumption | refine look_ne (by omega) ?_ | refine look_keep (by assumption) (by omega) (by simp; try omega) ?_)) rfl rfl) ?_
    refine dC rfl rfl rfl rfl (impl_Heap_box_s _ _ _ _ _ _ ) (accB_ok rfl) ?_
    refine dL rfl rfl rfl (by omega) (by repeat (first | exact trivial | refine And.intro (Or.inl rfl) ?_ | refine And.intro (Or.inr trivial) ?_ | refine And.intro (Or.inr (And.intro (Or.inl (by omega)) (by first | (simp; done) | (simp; omega)))) ?_ | refine And.intro (Or.inr (And.intro (Or.inr (by omega)) (by first | (simp; done) | (simp; omega)))) ?_ | refine And.intro (Or.inr (by simp [compat]; try omega)) ?_)) (e_loadA t25 rfl rfl (by repeat (first | exact look_same | assumption | refine look_ne (by omega) ?_ | refine look_keep (by assumption) (by omega) (by simp; try omega) ?_)) rfl rfl) ?_
    refine dC rfl rfl rfl rfl (impl_box_index_s _ _ _ _ _ _ (by assumption) (by assumption)) (accB_ok rfl) ?_
    refine dP rfl rfl rfl (e_shlU (_) (ev_cU (k := 1) (by decide) rfl) rfl rfl) ?_
    refine dP rfl rfl rfl (e_orU rfl rfl) ?_
    refine dP rfl rfl rfl (e_assign rfl) ?_
    refine dEnd (hK _ [(1, _), (3, _), (7, _), (8, _), (9, _)] _ _ rfl ?_)
    clear hK K
    refine blockN ?_
    refine thenN ?_
    refine W.rR [3, 9, 1, 7, 8] fun K hK => ?_
    refine st rfl rfl (e_add rfl rfl (inB _ (by omega))) ?_
    refine st rfl rfl (e_move rfl) ?_
    refine stEnd (hK _ [(3, _), (9, _), (1, _), (7, _), (8, _)] _ _ rfl ?_)
    clear hK K
    exact roundN (V' := [(3, _), (9, _)]) [3, 9, 1, 7, 8] rfl (by omega) (by repeat (first | exact Keeps.refl _ _ _ | assumption | refine Keeps.trans ?_ (by assumption) (by omega) (by simp; try omega) | refine Keeps.set ?_ (by first | exact Or.inl (by omega) | (simp; done) | (simp; omega)) | refine Keeps.del ?_ (by first | exact Or.inl (by omega) | (simp; done) | (simp; omega)))) _ (by omega) ⟨i + 1, (by rw [maskN_succ (by omega)]; rfl), rfl, (by first | omega | assumption | simp_all)⟩
  ·
    try simp only [decide_eq_true_eq, decide_eq_false_iff_not, Bool.not_eq_true', Bool.not_eq_false', Bool.not_eq_true, Bool.not_eq_false] at hb1
    refine stEnd (hK _ [(1, _), (3, _), (7, _), (8, _), (9, _), (10, _)] _ _ rfl ?_)
    clear hK K
    refine W.seq ?_
    refine W.condF rfl ?_
    refine W.exit ?_
    refine thenE ?_
    refine thenE ?_
    refine blockX ?_
    refine thenN ?_
    refine W.sR [2] fun K hK => ?_
    refine st rfl rfl (e_move rfl) ?_
    refine st rfl rfl (e_assign rfl) ?_
    refine stEnd (hK _ [(2, _)] _ _ rfl ?_)
    clear hK K
    refine W.ret ?_
    refine ⟨.inr rfl, Ends.v0 (by repeat (first | exact self_old | assumption | refine set_old ?_ (by omega) | refine keep_old (by assumption) ?_ (by omega) (by simp; try omega))) hfresh (by first | rfl | (simp [ltT, ltA, ltC, ltV]; try omega)) (res1 (resT rfl) rfl) ?_⟩
    (obtain rfl : i = cs.length := by omega); rfl
theorem impl_Heap_free_s (X Y Z : Int) (b : Nat) (ro : Bool) (cs : List C) (H : Heap) (n : Nat) (hb : H b = some (.cells ro (flat cs))) (hlen : cs.length ≤ 1048576) (hv : Valid X Y Z cs) : Fn Try.prog 63 [.agg #[.int .i64 X, .int .i64 Y, .int .i64 Z, .slice (some ⟨b, 0, none⟩) cs.length 3]] H n (U (((1#64 : BitVec 64) <<< vol X Y Z - 1#64) &&& ~~~ mask Y Z cs)) (H) (n) := by
  refine Fn.intro' Try.func63 rfl (by kernel_rfl) Try.ntmps63 (by simp) (by omega) fun hfresh => ?_
  have lt_hb := lt_fresh hfresh hb
  have hX := hv.box
  show W _ _ _ ⟨[(0, _)], _, _⟩ _
  refine W.sR [1] fun K hK => ?_
  refine st rfl rfl (e_boxA rfl) ?_
  refine st rfl rfl (e_assign rfl) ?_
  refine stEnd (hK _ [(1, _)] _ _ rfl ?_)
  clear hK K
  refine W.sD [2] [0, 1, 3, 0, 15, 31, 63] (by kernel_rfl) (by kernel_rfl) fun K hK => ?_
  refine dL rfl rfl rfl (by omega) (accB_ok rfl) (e_loadA t30 rfl rfl (by repeat (first | exact look_same | assumption | refine look_ne (by omega) ?_)) rfl rfl) ?_
  refine dC rfl rfl rfl rfl (impl_Heap_box_s _ _ _ _ _ _ ) (accB_ok rfl) ?_
  refine dC rfl rfl rfl rfl (impl_box_full_s _ _ _ _ _ (by assumption)) (accB_ok rfl) ?_
  refine dL rfl rfl rfl (by omega) (by repeat (first | exact trivial | refine And.intro (Or.inl rfl) ?_ | refine And.intro (Or.inr trivial) ?_ | refine And.intro (Or.inr (And.intro (Or.inl (by omega)) (by first | (simp; done) | (simp; omega)))) ?_ | refine And.intro (Or.inr (And.intro (Or.inr (by omega)) (by first | (simp; done) | (simp; omega)))) ?_ | refine And.intro (Or.inr (by simp [compat]; try omega)) ?_)) (e_loadA t30 rfl rfl (by repeat (first | exact look_same | assumption | refine look_ne (by omega) ?_)) rfl rfl) ?_
  refine dC rfl rfl rfl rfl (impl_Heap_cubes_s _ _ _ _ _ _ _ _ (by repeat (first | exact look_same | assumption | refine look_ne (by omega) ?_ | refine look_hide (by omega) (by first | exact List.not_mem_nil | (simp [hidden, Nat.testBit]; done) | (simp [hidden, Nat.testBit]; omega)) ?_)) (by omega) (by assumption)) (accB_ok rfl) ?_
  refine dP rfl rfl rfl (e_andNotU rfl rfl) ?_
  refine dP rfl rfl rfl (e_assign rfl) ?_
  refine dEnd (hK _ [(2, _)] _ _ rfl ?_)
  clear hK K
  refine W.ret ?_
  refine ⟨.inr rfl, Ends.v0 (by repeat (first | exact self_old | assumption | refine set_old ?_ (by omega))) hfresh (by first | rfl | (simp [ltT, ltA, ltC, ltV]; try omega)) (res1 (resT rfl) rfl) ?_⟩
  rfl
theorem impl_added_s (c d : C) (H : Heap) (n : Nat) (hc : (-1000 ≤ c.1 ∧ c.1 ≤ 1000) ∧ (-1000 ≤ c.2.1 ∧ c.2.1 ≤ 1000) ∧ (-1000 ≤ c.2.2 ∧ c.2.2 ≤ 1000)) (hd : (-1000 ≤ d.1 ∧ d.1 ≤ 1000) ∧ (-1000 ≤ d.2.1 ∧ d.2.1 ≤ 1000) ∧ (-1000 ≤ d.2.2 ∧ d.2.2 ≤ 1000)) : Fn Try.prog 119 [.agg #[.int .i64 c.1, .int .i64 c.2.1, .int .i64 c.2.2], .agg #[.int .i64 d.1, .int .i64 d.2.1, .int .i64 d.2.2]] H n (.agg #[.int .i64 (addC c d).1, .int .i64 (addC c d).2.1, .int .i64 (addC c d).2.2]) (H) (n) := by
  refine Fn.intro' Try.func119 rfl (by kernel_rfl) Try.ntmps119 (by simp) (by omega) fun hfresh => ?_
  show W _ _ _ ⟨[(0, _), (1, _)], _, _⟩ _
  refine W.sR [2, 3, 4] fun K hK => ?_
  refine st rfl rfl (e_boxA rfl) ?_
  refine st rfl rfl (e_boxA rfl) ?_
  refine st rfl rfl (e_alloc t25 rfl) ?_
  refine stEnd (hK _ [(2, _), (3, _), (4, _)] _ _ rfl ?_)
  clear hK K
  refine W.sR [4] fun K hK => ?_
  refine st rfl rfl (e_idxAK (0) t25 t3 rfl rfl (by first | rfl | omega) (by first | omega | decide)) ?_
  refine st rfl rfl (e_load1 t3 rfl rfl (by repeat (first | exact look_same | assumption | refine look_ne (by omega) ?_)) (by first | rfl | exact tri_getL (by omega))) ?_
  refine st rfl rfl (e_idxAK (0) t25 t3 rfl rfl (by first | rfl | omega) (by first | omega | decide)) ?_
  refine st rfl rfl (e_load1 t3 rfl rfl (by repeat (first | exact look_same | assumption | refine look_ne (by omega) ?_)) (by first | rfl | exact tri_getL (by omega))) ?_
  refine st rfl rfl (e_add rfl rfl (inB _ (by omega))) ?_
  refine st rfl rfl (e_idxAK (1) t25 t3 rfl rfl (by first | rfl | omega) (by first | omega | decide)) ?_
  refine st rfl rfl (e_load1 t3 rfl rfl (by repeat (first | exact look_same | assumption | refine look_ne (by omega) ?_)) (by first | rfl | exact tri_getL (by omega))) ?_
  refine st rfl rfl (e_idxAK (1) t25 t3 rfl rfl (by first | rfl | omega) (by first | omega | decide)) ?_
  refine st rfl rfl (e_load1 t3 rfl rfl (by repeat (first | exact look_same | assumption | refine look_ne (by omega) ?_)) (by first | rfl | exact tri_getL (by omega))) ?_
  refine st rfl rfl (e_add rfl rfl (inB _ (by omega))) ?_
  refine st rfl rfl (e_idxAK (2) t25 t3 rfl rfl (by first | rfl | omega) (by first | omega | decide)) ?_
  refine st rfl rfl (e_load1 t3 rfl rfl (by repeat (first | exact look_same | assumption | refine look_ne (by omega) ?_)) (by first | rfl | exact tri_getL (by omega))) ?_
  refine st rfl rfl (e_idxAK (2) t25 t3 rfl rfl (by first | rfl | omega) (by first | omega | decide)) ?_
  refine st rfl rfl (e_load1 t3 rfl rfl (by repeat (first | exact look_same | assumption | refine look_ne (by omega) ?_)) (by first | rfl | exact tri_getL (by omega))) ?_
  refine st rfl rfl (e_add rfl rfl (inB _ (by omega))) ?_
  refine st rfl rfl (e_build rfl rfl (bld25_0_1_2 _ _ _ rfl rfl rfl)) ?_
  refine stN rfl (e_storeA t25 rfl rfl (by repeat (first | exact look_same | assumption | refine look_ne (by omega) ?_)) rfl rfl rfl (by decide)) ?_
  refine stEnd (hK _ [(4, _)] _ _ rfl ?_)
  clear hK K
  refine W.ret ?_
  refine ⟨.inr rfl, Ends.v0 (by repeat (first | exact self_old | assumption | refine set_old ?_ (by omega))) hfresh (by first | rfl | (simp [ltT, ltA, ltC, ltV]; try omega)) (res1 (resC t25 rfl rfl (by repeat (first | exact look_same | assumption | refine look_ne (by omega) ?_)) rfl rfl) rfl) ?_⟩
  rfl
theorem impl_set_has_s (s : BitVec 64) (i : Nat) (H : Heap) (n : Nat) (hi : i < 64) : Fn Try.prog 89 [U s, .int .i64 (i : Nat)] H n (.bool (s.getLsbD i)) (H) (n) := by
  refine Fn.intro' Try.func89 rfl (by kernel_rfl) Try.ntmps89 (by simp) (by omega) fun hfresh => ?_
  show W _ _ _ ⟨[(0, _), (1, _)], _, _⟩ _
  refine W.sR [0, 1] fun K hK => ?_
  refine st rfl rfl (e_assign rfl) ?_
  refine stEnd (hK _ [(0, _), (1, _)] _ _ rfl ?_)
  clear hK K
  refine W.sR [4] fun K hK => ?_
  refine st rfl rfl (e_move rfl) ?_
  refine st rfl rfl (e_move rfl) ?_
  refine st rfl rfl (e_shrU (i) rfl rfl rfl) ?_
  refine st rfl rfl (e_andU rfl (ev_cU (k := 1) (by decide) rfl)) ?_
  refine st rfl rfl (e_eqlU rfl (ev_cU (k := 1) (by decide) rfl)) ?_
  refine st rfl rfl (e_assign rfl) ?_
  refine stEnd (hK _ [(4, _)] _ _ rfl ?_)
  clear hK K
  refine W.ret ?_
  refine ⟨.inr rfl, Ends.v0 (by repeat (first | exact self_old | assumption | refine set_old ?_ (by omega))) hfresh (by first | rfl | (simp [ltT, ltA, ltC, ltV]; try omega)) (res1 (resT rfl) rfl) ?_⟩
  exact congrArg Value.bool (has_bit hi)
theorem impl_box_placed_s (X Y Z : Int) (fr : BitVec 64) (d : Nat) (ro2 : Bool) (ps : List C) (a : C) (cs : List C) (H : Heap) (n : Nat) (hX : (1 ≤ X ∧ X ≤ 4) ∧ (1 ≤ Y ∧ Y ≤ 4) ∧ (1 ≤ Z ∧ Z ≤ 4)) (hd : H d = some (.cells ro2 (flat ps))) (hp : Piece ps) (hF : ∀ c, In X Y Z c → fr.getLsbD (cellIx Y Z c) = !decide (c ∈ cs)) : Fn Try.prog 62 [.agg #[.int .i64 X, .int .i64 Y, .int .i64 Z], U fr, .slice (some ⟨d, 0, none⟩) ps.length 3, .agg #[.int .i64 a.1, .int .i64 a.2.1, .int .i64 a.2.2]] H n (.tuple #[U (placeS X Y Z cs ps a), .bool (fitAt X Y Z cs ps a)]) (H) (n) := by
  refine Fn.intro' Try.func62 rfl (by kernel_rfl) Try.ntmps62 (by simp) (by omega) fun hfresh => ?_
  have lt_hd := lt_fresh hfresh hd
  have hpl := hp.len
  show W _ _ _ ⟨[(0, _), (1, _), (2, _), (3, _)], _, _⟩ _
  refine W.sR [1, 2, 4, 7] fun K hK => ?_
  refine st rfl rfl (e_boxA rfl) ?_
  refine st rfl rfl (e_boxA rfl) ?_
  refine st rfl rfl (e_assign rfl) ?_
  refine st rfl rfl (e_assign rfl) ?_
  refine stEnd (hK _ [(1, _), (2, _), (4, _), (7, _)] _ _ rfl ?_)
  clear hK K
  refine W.sR [1, 2, 4, 7, 10] fun K hK => ?_
  refine st rfl rfl (e_assign rfl) ?_
  refine stEnd (hK _ [(1, _), (2, _), (4, _), (7, _), (10, _)] _ _ rfl ?_)
  clear hK K
  refine W.seq ?_
  refine W.sR [1, 2, 4, 7, 10, 16] fun K hK => ?_
  refine st rfl rfl (e_sliceA t25 t3 rfl (by repeat (first | exact look_same | assumption | refine look_ne (by omega) ?_ | refine look_keep (by assumption) (by omega) (by simp; try omega) ?_)) (by first | (simp; done) | (simp only [tri, List.length_cons, List.length_nil]; omega))) ?_
  refine stC rfl rfl rfl (impl_allWithin_s _ 3 _ [a.1, a.2.1, a.2.2] _ _ _ _ (by repeat (first | exact look_same | assumption | refine look_ne (by omega) ?_ | refine look_keep (by assumption) (by omega) (by simp; try omega) ?_)) (by first | rfl | simp) (by simp)) ?_
  refine st rfl rfl (e_not rfl) ?_
  refine stB (fun hw => ?_) (fun hw => ?_)
  ·
    try simp only [decide_eq_true_eq, decide_eq_false_iff_not, Bool.not_eq_true', Bool.not_eq_false', Bool.not_eq_true, Bool.not_eq_false] at hw
    refine stEnd (hK _ [(1, _), (2, _), (4, _), (7, _), (10, _), (16, _)] _ _ rfl ?_)
    clear hK K
    refine W.condT rfl ?_
    refine W.sR [8, 9] fun K hK => ?_
    refine st rfl rfl (e_assign rfl) ?_
    refine st rfl rfl (e_assign rfl) ?_
    refine stEnd (hK _ [(8, _), (9, _)] _ _ rfl ?_)
    clear hK K
    refine W.ret ?_
    refine thenR ?_
    refine ⟨.inr rfl, Ends.v0 (by repeat (first | exact self_old | assumption | refine set_old ?_ (by omega) | refine keep_old (by assumption) ?_ (by omega) (by simp; try omega))) hfresh (by first | rfl | (simp [ltT, ltA, ltC, ltV]; try omega)) (res2 (resT rfl) (resT rfl) rfl rfl) ?_⟩
    first | exact (place_yes (fit_04w hX hp ha (all3_yes hq))).symm | exact (place_no (fit_04no hw)).symm | exact (place_no (fit_04w hX hp ha (all3_no (i := i) (by omega) (fitC_no1 hin)))).symm | exact (place_no (fit_04w hX hp ha (all3_no (i := i) (by omega) (fitC_no2 hocc)))).symm
  ·
    try simp only [decide_eq_true_eq, decide_eq_false_iff_not, Bool.not_eq_true', Bool.not_eq_false', Bool.not_eq_true, Bool.not_eq_false] at hw
    have ha := (w04_list a).mp hw
    refine stEnd (hK _ [(1, _), (2, _), (4, _), (7, _), (10, _), (16, _)] _ _ rfl ?_)
    clear hK K
    refine W.condF rfl ?_
    refine W.skip ?_
    refine thenN ?_
    refine W.seq ?_
    refine W.sR [1, 4, 7, 10, 17, 18, 19] fun K hK => ?_
    refine st rfl rfl (e_move rfl) ?_
    refine st rfl rfl (e_len t22 rfl) ?_
    refine st rfl rfl (e_move rfl) ?_
    refine stEnd (hK _ [(1, _), (4, _), (7, _), (10, _), (17, _), (18, _), (19, _)] _ _ rfl ?_)
    clear hK K
    refine W.block ?_
    refine W.ord [10, 19, 1, 4, 7, 17, 18] (ts' := [(10, _), (19, _)] ++ [(1, _), (4, _), (7, _), (17, _), (18, _)]) rfl ?_
    refine W.loopC [(10, _), (19, _)] [] (fun κ V G μ => ∃ i : Nat, V = [(10, U (maskN Y Z (ps.map fun c => addC c a) i)), (19, .int .i64 (i : Nat))] ∧ κ = ps.length - i ∧ (i ≤ ps.length) ∧ (∀ j, j < i → fitC X Y Z cs a (at3 ps j) = true)) _ ⟨0, rfl, rfl, (by first | omega | assumption | rfl | simp_all), (fun j hj => absurd hj (by omega))⟩ fun κ V G μ hinv hμ hkeep hfr => ?_
    obtain ⟨i, rfl, rfl, hi, hq⟩ := hinv
    refine W.sR [1, 4, 7, 10, 17, 18, 19, 20] fun K hK => ?_
    refine st rfl rfl (e_lss rfl rfl) ?_
    refine stB (fun hb2 => ?_) (fun hb2 => ?_)
    ·
      try simp only [decide_eq_true_eq, decide_eq_false_iff_not, Bool.not_eq_true', Bool.not_eq_false', Bool.not_eq_true, Bool.not_eq_false] at hb2
      refine stEnd (hK _ [(1, _), (4, _), (7, _), (10, _), (17, _), (18, _), (19, _), (20, _)] _ _ rfl ?_)
      clear hK K
      refine W.seq ?_
      refine W.condT rfl ?_
      refine W.skip ?_
      refine thenN ?_
      refine W.seq ?_
      refine W.block ?_
      have hc3 := in3_bd (hp.in3 i (by omega))
      refine W.sR [1, 4, 7, 10, 12, 17, 18, 19] fun K hK => ?_
      refine st rfl rfl (e_idxSK _ t22 t25 rfl rfl rfl (by first | omega | decide)) ?_
      refine st rfl rfl (e_loadP t25 rfl rfl (by repeat (first | exact look_same | assumption | refine look_ne (by omega) ?_ | refine look_keep (by assumption) (by omega) (by simp; try omega) ?_)) (flat_at (by omega))) ?_
      refine st rfl rfl (e_alloc t25 rfl) ?_
      refine stN rfl (e_storeA t25 rfl rfl (by repeat (first | exact look_same | assumption | refine look_ne (by omega) ?_ | refine look_keep (by assumption) (by omega) (by simp; try omega) ?_)) rfl rfl rfl (by decide)) ?_
      refine stEnd (hK _ [(1, _), (4, _), (7, _), (10, _), (12, _), (17, _), (18, _), (19, _)] _ _ rfl ?_)
      clear hK K
      refine W.sR [1, 4, 7, 10, 13, 17, 18, 19] fun K hK => ?_
      refine st rfl rfl (e_loadA t25 rfl rfl (by repeat (first | exact look_same | assumption | refine look_ne (by omega) ?_ | refine look_keep (by assumption) (by omega) (by simp; try omega) ?_)) rfl rfl) ?_
      refine st rfl rfl (e_loadA t25 rfl rfl (by repeat (first | exact look_same | assumption | refine look_ne (by omega) ?_ | refine look_keep (by assumption) (by omega) (by simp; try omega) ?_)) rfl rfl) ?_
      refine stC rfl rfl rfl (impl_added_s _ _ _ _ (by omega) (by omega)) ?_
      refine st rfl rfl (e_alloc t25 rfl) ?_
      refine stN rfl (e_storeA t25 rfl rfl (by repeat (first | exact look_same | assumption | refine look_ne (by omega) ?_ | refine look_keep (by assumption) (by omega) (by simp; try omega) ?_)) rfl rfl rfl (by decide)) ?_
      refine stEnd (hK _ [(1, _), (4, _), (7, _), (10, _), (13, _), (17, _), (18, _), (19, _)] _ _ rfl ?_)
      clear hK K
      refine W.seq ?_
      refine W.sR [1, 4, 7, 10, 13, 17, 18, 19, 37] fun K hK => ?_
      refine st rfl rfl (e_loadA t73 rfl rfl (by repeat (first | exact look_same | assumption | refine look_ne (by omega) ?_ | refine look_keep (by assumption) (by omega) (by simp; try omega) ?_)) rfl rfl) ?_
      refine st rfl rfl (e_loadA t25 rfl rfl (by repeat (first | exact look_same | assumption | refine look_ne (by omega) ?_ | refine look_keep (by assumption) (by omega) (by simp; try omega) ?_)) rfl rfl) ?_
      refine stC rfl rfl rfl (impl_box_has_s _ _ _ _ _ _ (by omega)) ?_
      refine st rfl rfl (e_not rfl) ?_
      refine st rfl rfl (e_move rfl) ?_
      refine stB (fun hin => ?_) (fun hin => ?_)
      ·
        try simp only [decide_eq_true_eq, decide_eq_false_iff_not, Bool.not_eq_true', Bool.not_eq_false', Bool.not_eq_true, Bool.not_eq_false] at hin
        refine stS rfl rfl ?_
        refine stS rfl rfl ?_
        refine stS rfl rfl ?_
        refine stS rfl rfl ?_
        refine stS rfl rfl ?_
        refine stS rfl rfl ?_
        refine st rfl rfl (e_pickT rfl rfl) ?_
        refine stEnd (hK _ [(1, _), (4, _), (7, _), (10, _), (13, _), (17, _), (18, _), (19, _), (37, _)] _ _ rfl ?_)
        clear hK K
        refine W.condT rfl ?_
        refine W.sR [8, 9] fun K hK => ?_
        refine st rfl rfl (e_assign rfl) ?_
        refine st rfl rfl (e_assign rfl) ?_
        refine stEnd (hK _ [(8, _), (9, _)] _ _ rfl ?_)
        clear hK K
        refine W.ret ?_
        refine thenR ?_
        refine blockR ?_
        refine thenR ?_
        refine thenR ?_
        refine blockR ?_
        refine thenR ?_
        refine ⟨.inr rfl, Ends.v0 (by repeat (first | exact self_old | assumption | refine set_old ?_ (by omega) | refine keep_old (by assumption) ?_ (by omega) (by simp; try omega))) hfresh (by first | rfl | (simp [ltT, ltA, ltC, ltV]; try omega)) (res2 (resT rfl) (resT rfl) rfl rfl) ?_⟩
        first | exact (place_yes (fit_04w hX hp ha (all3_yes hq))).symm | exact (place_no (fit_04no hw)).symm | exact (place_no (fit_04w hX hp ha (all3_no (i := i) (by omega) (fitC_no1 hin)))).symm | exact (place_no (fit_04w hX hp ha (all3_no (i := i) (by omega) (fitC_no2 hocc)))).symm
      ·
        try simp only [decide_eq_true_eq, decide_eq_false_iff_not, Bool.not_eq_true', Bool.not_eq_false', Bool.not_eq_true, Bool.not_eq_false] at hin
        have hc4 := inBox_bd hin
        have h64 := cellIx_lt64 hX hc4
        refine st rfl rfl (e_move rfl) ?_
        refine st rfl rfl (e_loadA t73 rfl rfl (by repeat (first | exact look_same | assumption | refine look_ne (by omega) ?_ | refine look_keep (by assumption) (by omega) (by simp; try omega) ?_)) rfl rfl) ?_
        refine st rfl rfl (e_loadA t25 rfl rfl (by repeat (first | exact look_same | assumption | refine look_ne (by omega) ?_ | refine look_keep (by assumption) (by omega) (by simp; try omega) ?_)) rfl rfl) ?_
        refine stC rfl rfl rfl (impl_box_index_s _ _ _ _ _ _ (by assumption) (by assumption)) ?_
        refine stC rfl rfl rfl (impl_set_has_s _ _ _ _ (by omega)) ?_
        rw [hF _ hc4]
        refine st rfl rfl (e_not rfl) ?_
        rw [Bool.not_not]
        refine st rfl rfl (e_pickF rfl rfl) ?_
        refine stB (fun hocc => ?_) (fun hocc => ?_)
        ·
          try simp only [decide_eq_true_eq, decide_eq_false_iff_not, Bool.not_eq_true', Bool.not_eq_false', Bool.not_eq_true, Bool.not_eq_false] at hocc
          refine stEnd (hK _ [(1, _), (4, _), (7, _), (10, _), (13, _), (17, _), (18, _), (19, _), (37, _)] _ _ rfl ?_)
          clear hK K
          refine W.condT rfl ?_
          refine W.sR [8, 9] fun K hK => ?_
          refine st rfl rfl (e_assign rfl) ?_
          refine st rfl rfl (e_assign rfl) ?_
          refine stEnd (hK _ [(8, _), (9, _)] _ _ rfl ?_)
          clear hK K
          refine W.ret ?_
          refine thenR ?_
          refine blockR ?_
          refine thenR ?_
          refine thenR ?_
          refine blockR ?_
          refine thenR ?_
          refine ⟨.inr rfl, Ends.v0 (by repeat (first | exact self_old | assumption | refine set_old ?_ (by omega) | refine keep_old (by assumption) ?_ (by omega) (by simp; try omega))) hfresh (by first | rfl | (simp [ltT, ltA, ltC, ltV]; try omega)) (res2 (resT rfl) (resT rfl) rfl rfl) ?_⟩
          first | exact (place_yes (fit_04w hX hp ha (all3_yes hq))).symm | exact (place_no (fit_04no hw)).symm | exact (place_no (fit_04w hX hp ha (all3_no (i := i) (by omega) (fitC_no1 hin)))).symm | exact (place_no (fit_04w hX hp ha (all3_no (i := i) (by omega) (fitC_no2 hocc)))).symm
        ·
          try simp only [decide_eq_true_eq, decide_eq_false_iff_not, Bool.not_eq_true', Bool.not_eq_false', Bool.not_eq_true, Bool.not_eq_false] at hocc
          refine stEnd (hK _ [(1, _), (4, _), (7, _), (10, _), (13, _), (17, _), (18, _), (19, _), (37, _)] _ _ rfl ?_)
          clear hK K
          refine W.condF rfl ?_
          refine W.skip ?_
          refine thenN ?_
          refine W.rR [1, 4, 7, 10, 17, 18, 19] fun K hK => ?_
          refine st rfl rfl (e_move rfl) ?_
          refine st rfl rfl (e_loadA t73 rfl rfl (by repeat (first | exact look_same | assumption | refine look_ne (by omega) ?_ | refine look_keep (by assumption) (by omega) (by simp; try omega) ?_)) rfl rfl) ?_
          refine st rfl rfl (e_loadA t25 rfl rfl (by repeat (first | exact look_same | assumption | refine look_ne (by omega) ?_ | refine look_keep (by assumption) (by omega) (by simp; try omega) ?_)) rfl rfl) ?_
          refine stC rfl rfl rfl (impl_box_index_s _ _ _ _ _ _ (by assumption) (by assumption)) ?_
          refine st rfl rfl (e_shlU (_) (ev_cU (k := 1) (by decide) rfl) rfl rfl) ?_
          refine st rfl rfl (e_orU rfl rfl) ?_
          refine st rfl rfl (e_assign rfl) ?_
          refine stEnd (hK _ [(1, _), (4, _), (7, _), (10, _), (17, _), (18, _), (19, _)] _ _ rfl ?_)
          clear hK K
          refine blockN ?_
          refine thenN ?_
          refine W.rR [10, 19, 1, 4, 7, 17, 18] fun K hK => ?_
          refine st rfl rfl (e_add rfl rfl (inB _ (by omega))) ?_
          refine st rfl rfl (e_move rfl) ?_
          refine stEnd (hK _ [(10, _), (19, _), (1, _), (4, _), (7, _), (17, _), (18, _)] _ _ rfl ?_)
          clear hK K
          exact roundN (V' := [(10, _), (19, _)]) [10, 19, 1, 4, 7, 17, 18] rfl (by omega) (by repeat (first | exact Keeps.refl _ _ _ | assumption | refine Keeps.trans ?_ (by assumption) (by omega) (by simp; try omega) | refine Keeps.set ?_ (by first | exact Or.inl (by omega) | (simp; done) | (simp; omega)) | refine Keeps.del ?_ (by first | exact Or.inl (by omega) | (simp; done) | (simp; omega)))) _ (by omega) ⟨i + 1, (by rw [← maskN_map (by omega)]; rfl), rfl, (by first | omega | assumption | simp_all), (all_succ hq (fitC_yes hin hocc))⟩
    ·
      try simp only [decide_eq_true_eq, decide_eq_false_iff_not, Bool.not_eq_true', Bool.not_eq_false', Bool.not_eq_true, Bool.not_eq_false] at hb2
      refine stEnd (hK _ [(1, _), (4, _), (7, _), (10, _), (17, _), (18, _), (19, _), (20, _)] _ _ rfl ?_)
      clear hK K
      refine W.seq ?_
      refine W.condF rfl ?_
      refine W.exit ?_
      refine thenE ?_
      refine thenE ?_
      refine blockX ?_
      refine thenN ?_
      obtain rfl : i = ps.length := by omega
      refine W.sR [8, 9] fun K hK => ?_
      refine st rfl rfl (e_move rfl) ?_
      refine st rfl rfl (e_assign rfl) ?_
      refine st rfl rfl (e_assign rfl) ?_
      refine stEnd (hK _ [(8, _), (9, _)] _ _ rfl ?_)
      clear hK K
      refine W.ret ?_
      refine ⟨.inr rfl, Ends.v0 (by repeat (first | exact self_old | assumption | refine set_old ?_ (by omega) | refine keep_old (by assumption) ?_ (by omega) (by simp; try omega))) hfresh (by first | rfl | (simp [ltT, ltA, ltC, ltV]; try omega)) (res2 (resT rfl) (resT rfl) rfl rfl) ?_⟩
      first | exact (place_yes (fit_04w hX hp ha (all3_yes hq))).symm | exact (place_no (fit_04no hw)).symm | exact (place_no (fit_04w hX hp ha (all3_no (i := i) (by omega) (fitC_no1 hin)))).symm | exact (place_no (fit_04w hX hp ha (all3_no (i := i) (by omega) (fitC_no2 hocc)))).symm
end Go.Sep.Walks
