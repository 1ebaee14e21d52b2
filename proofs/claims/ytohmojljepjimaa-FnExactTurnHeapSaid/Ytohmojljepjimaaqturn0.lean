/- Part of a proof: qturn0 -/
import Derived.Test.YtohmojljepjimaaTT
import Derived.Test.YtohmojljepjimaaTop2
namespace Go.Sep.Walks
open Go Go.Sep Go.Proofs
set_option linter.unusedVariables false
set_option linter.unusedSimpArgs false
theorem laws_szIntA3S_s (p : Option Addr) (m e : Nat) (left : Int) (H : Heap) (n : Nat) (hm : m ≤ 9223372036854775807 ∧ 0 ≤ left ∧ left ≤ 1073741824) : Fn Try.prog 16 [.slice p m e, .int .i64 left] H n (.int .i64 (if left - (m : Int) < 0 then -1 else left - (m : Int))) (H) (n) := by
  refine Fn.intro' Try.func16 rfl (by kernel_rfl) Try.ntmps16 (by simp) (by omega) fun hfresh => ?_
  show W _ _ _ ⟨[(0, _), (1, _)], _, _⟩ _
  refine W.sR [0, 1] fun K hK => ?_
  refine st rfl rfl (e_assign rfl) ?_
  refine stEnd (hK _ [(0, _), (1, _)] _ _ rfl ?_)
  clear hK K
  refine W.sR [1] fun K hK => ?_
  refine st rfl rfl (e_move rfl) ?_
  refine st rfl rfl (e_move rfl) ?_
  refine st rfl rfl (e_len t22 rfl) ?_
  refine st rfl rfl (e_sub rfl rfl (inB _ (by omega))) ?_
  refine st rfl rfl (e_assign rfl) ?_
  refine stEnd (hK _ [(1, _)] _ _ rfl ?_)
  clear hK K
  refine W.seq ?_
  refine W.sR [1, 10] fun K hK => ?_
  refine st rfl rfl (e_move rfl) ?_
  refine st rfl rfl (e_lss rfl rfl) ?_
  refine stB (fun hb1 => ?_) (fun hb1 => ?_)
  ·
    try simp only [decide_eq_true_eq, decide_eq_false_iff_not, Bool.not_eq_true', Bool.not_eq_false', Bool.not_eq_true, Bool.not_eq_false] at hb1
    refine stEnd (hK _ [(1, _), (10, _)] _ _ rfl ?_)
    clear hK K
    refine W.condT rfl ?_
    refine W.sR [4] fun K hK => ?_
    refine st rfl rfl (e_assign rfl) ?_
    refine stEnd (hK _ [(4, _)] _ _ rfl ?_)
    clear hK K
    refine W.ret ?_
    refine thenR ?_
    refine ⟨.inr rfl, Ends.v0 (by repeat (first | exact self_old | assumption | refine set_old ?_ (by omega))) hfresh (by first | rfl | (simp [ltT, ltA, ltC, ltV]; try omega)) (res1 (resT rfl) rfl) ?_⟩
    first | rfl | (congr 1 <;> split <;> omega)
  ·
    try simp only [decide_eq_true_eq, decide_eq_false_iff_not, Bool.not_eq_true', Bool.not_eq_false', Bool.not_eq_true, Bool.not_eq_false] at hb1
    refine stEnd (hK _ [(1, _), (10, _)] _ _ rfl ?_)
    clear hK K
    refine W.condF rfl ?_
    refine W.skip ?_
    refine thenN ?_
    refine W.sR [4] fun K hK => ?_
    refine st rfl rfl (e_move rfl) ?_
    refine st rfl rfl (e_assign rfl) ?_
    refine stEnd (hK _ [(4, _)] _ _ rfl ?_)
    clear hK K
    refine W.ret ?_
    refine ⟨.inr rfl, Ends.v0 (by repeat (first | exact self_old | assumption | refine set_old ?_ (by omega))) hfresh (by first | rfl | (simp [ltT, ltA, ltC, ltV]; try omega)) (res1 (resT rfl) rfl) ?_⟩
    first | rfl | (congr 1 <;> split <;> omega)
theorem laws_szHeap_s (X Y Z : Int) (p : Option Addr) (m e : Nat) (left : Int) (H : Heap) (n : Nat) (hm : m ≤ 9223372036854775807 ∧ 0 ≤ left ∧ left ≤ 1073741824) : Fn Try.prog 15 [.agg #[.int .i64 X, .int .i64 Y, .int .i64 Z, .slice p m e], .int .i64 left] H n (.int .i64 (if left - (m : Int) < 0 then -1 else left - (m : Int))) (H) (n) := by
  refine Fn.intro' Try.func15 rfl (by kernel_rfl) Try.ntmps15 (by simp) (by omega) fun hfresh => ?_
  show W _ _ _ ⟨[(0, _), (1, _)], _, _⟩ _
  refine W.sR [1, 2] fun K hK => ?_
  refine st rfl rfl (e_boxA rfl) ?_
  refine st rfl rfl (e_assign rfl) ?_
  refine stEnd (hK _ [(1, _), (2, _)] _ _ rfl ?_)
  clear hK K
  refine W.sR [1] fun K hK => ?_
  refine st rfl rfl (e_fieldAddr t24 t22 rfl rfl) ?_
  refine st rfl rfl (e_load1 t22 rfl rfl (by repeat (first | exact look_same | assumption | refine look_ne (by omega) ?_)) rfl) ?_
  refine st rfl rfl (e_move rfl) ?_
  refine stC rfl rfl rfl (laws_szIntA3S_s _ _ _ _ _ _ (by omega)) ?_
  refine st rfl rfl (e_assign rfl) ?_
  refine stEnd (hK _ [(1, _)] _ _ rfl ?_)
  clear hK K
  refine W.seq ?_
  refine W.sR [1, 10] fun K hK => ?_
  refine st rfl rfl (e_move rfl) ?_
  refine st rfl rfl (e_lss rfl rfl) ?_
  refine stB (fun hb1 => ?_) (fun hb1 => ?_)
  ·
    try simp only [decide_eq_true_eq, decide_eq_false_iff_not, Bool.not_eq_true', Bool.not_eq_false', Bool.not_eq_true, Bool.not_eq_false] at hb1
    refine stEnd (hK _ [(1, _), (10, _)] _ _ rfl ?_)
    clear hK K
    refine W.condT rfl ?_
    refine W.sR [4] fun K hK => ?_
    refine st rfl rfl (e_assign rfl) ?_
    refine stEnd (hK _ [(4, _)] _ _ rfl ?_)
    clear hK K
    refine W.ret ?_
    refine thenR ?_
    refine ⟨.inr rfl, Ends.v0 (by repeat (first | exact self_old | assumption | refine set_old ?_ (by omega))) hfresh (by first | rfl | (simp [ltT, ltA, ltC, ltV]; try omega)) (res1 (resT rfl) rfl) ?_⟩
    first | rfl | (congr 1 <;> split at * <;> omega)
  ·
    try simp only [decide_eq_true_eq, decide_eq_false_iff_not, Bool.not_eq_true', Bool.not_eq_false', Bool.not_eq_true, Bool.not_eq_false] at hb1
    refine stEnd (hK _ [(1, _), (10, _)] _ _ rfl ?_)
    clear hK K
    refine W.condF rfl ?_
    refine W.skip ?_
    refine thenN ?_
    refine W.sR [4] fun K hK => ?_
    refine st rfl rfl (e_move rfl) ?_
    refine st rfl rfl (e_assign rfl) ?_
    refine stEnd (hK _ [(4, _)] _ _ rfl ?_)
    clear hK K
    refine W.ret ?_
    refine ⟨.inr rfl, Ends.v0 (by repeat (first | exact self_old | assumption | refine set_old ?_ (by omega))) hfresh (by first | rfl | (simp [ltT, ltA, ltC, ltV]; try omega)) (res1 (resT rfl) rfl) ?_⟩
    first | rfl | (congr 1 <;> split at * <;> omega)
theorem laws_toIntA3S_nil_s  (H : Heap) (n : Nat) : Fn Try.prog 19 [.slice none 0 2] H n (.slice (some ⟨n, 0, none⟩) 0 3) (H.set n (.cells false [])) (n + 1) := by
  refine Fn.intro' Try.func19 rfl (by kernel_rfl) Try.ntmps19 (by simp) (by omega) fun hfresh => ?_
  show W _ _ _ ⟨[(0, _)], _, _⟩ _
  refine W.sR [0] fun K hK => ?_
  refine st rfl rfl (e_assign rfl) ?_
  refine stEnd (hK _ [(0, _)] _ _ rfl ?_)
  clear hK K
  refine W.sR [0, 3] fun K hK => ?_
  refine st rfl rfl (e_move rfl) ?_
  refine st rfl rfl (e_len t22 rfl) ?_
  refine st rfl rfl (e_make t22 t25 rfl rfl (by decide) (by omega) (m := 0)) ?_
  refine st rfl rfl (e_assign rfl) ?_
  refine stEnd (hK _ [(0, _), (3, _)] _ _ rfl ?_)
  clear hK K
  refine W.seq ?_
  refine W.sR [0, 3, 4] fun K hK => ?_
  refine st rfl rfl (e_assign rfl) ?_
  refine stEnd (hK _ [(0, _), (3, _), (4, _)] _ _ rfl ?_)
  clear hK K
  refine W.block ?_
  refine W.ord [4, 0, 3] (ts' := [(4, _)] ++ [(0, _), (3, _)]) rfl ?_
  refine W.loopC [(4, _)] [n] (fun κ V G μ => V = [(4, .int .i64 0)] ∧ κ = 0 ∧ (G n = some (.cells false []))) _ ⟨rfl, rfl, look_same⟩ fun κ V G μ hinv hμ hkeep hfr => ?_
  obtain ⟨rfl, rfl, hG⟩ := hinv
  refine W.seq ?_
  refine W.sR [0, 3, 4, 11] fun K hK => ?_
  refine st rfl rfl (e_move rfl) ?_
  refine st rfl rfl (e_move rfl) ?_
  refine st rfl rfl (e_len t22 rfl) ?_
  refine st rfl rfl (e_lss rfl rfl) ?_
  refine stB (fun hz => ?_) (fun hz => ?_)
  ·
    exact absurd hz (by simp)
  ·
    try simp only [decide_eq_true_eq, decide_eq_false_iff_not, Bool.not_eq_true', Bool.not_eq_false', Bool.not_eq_true, Bool.not_eq_false] at hz
    refine stEnd (hK _ [(0, _), (3, _), (4, _), (11, _)] _ _ rfl ?_)
    clear hK K
    refine W.condF rfl ?_
    refine W.exit ?_
    refine thenE ?_
    refine thenE ?_
    refine blockX ?_
    refine thenN ?_
    refine W.sR [2] fun K hK => ?_
    refine st rfl rfl (e_move rfl) ?_
    refine st rfl rfl (e_assign rfl) ?_
    refine stEnd (hK _ [(2, _)] _ _ rfl ?_)
    clear hK K
    refine W.ret ?_
    refine ⟨.inr rfl, Ends.v1 (n) (by omega) (by repeat (first | exact self_old | assumption | refine set_old ?_ (by omega) | refine keep_old (by assumption) ?_ (by omega) (by simp; try omega))) hfresh (by repeat (first | exact look_same | assumption | refine look_ne (by omega) ?_ | refine look_keep (by assumption) (by omega) (by simp; try omega) ?_)) ?_ rfl (by simp [ltT, ltA, ltC, ltV]; try omega) (res1 (resT rfl) rfl) ?_⟩
    · rfl
    · first | rfl | simp [renT, renV, renC, renA, one]
theorem laws_toIntA3_s (c : C) (H : Heap) (n : Nat) : Fn Try.prog 20 [.agg #[.int .i64 c.1, .int .i64 c.2.1, .int .i64 c.2.2]] H n (.agg #[.int .i64 c.1, .int .i64 c.2.1, .int .i64 c.2.2]) (H) (n) := by
  refine Fn.intro' Try.func20 rfl (by kernel_rfl) Try.ntmps20 (by simp) (by omega) fun hfresh => ?_
  show W _ _ _ ⟨[(0, _)], _, _⟩ _
  refine W.sR [1, 2] fun K hK => ?_
  refine st rfl rfl (e_boxA rfl) ?_
  refine st rfl rfl (e_alloc t25 rfl) ?_
  refine stEnd (hK _ [(1, _), (2, _)] _ _ rfl ?_)
  clear hK K
  refine W.sR [1, 2, 3] fun K hK => ?_
  refine st rfl rfl (e_alloc t25 rfl) ?_
  refine stEnd (hK _ [(1, _), (2, _), (3, _)] _ _ rfl ?_)
  clear hK K
  refine W.seq ?_
  refine W.sR [1, 2, 3, 4] fun K hK => ?_
  refine st rfl rfl (e_assign rfl) ?_
  refine stEnd (hK _ [(1, _), (2, _), (3, _), (4, _)] _ _ rfl ?_)
  clear hK K
  refine W.block ?_
  refine W.ord [4, 1, 2, 3] (ts' := [(4, _)] ++ [(1, _), (2, _), (3, _)]) rfl ?_
  refine W.loopC [(4, _)] [n + 1 + 1] (fun κ V G μ => ∃ i : Nat, V = [(4, .int .i64 (i : Nat))] ∧ κ = 3 - i ∧ (i ≤ 3) ∧ (G (n + 1 + 1) = some (.cells false (copyT c i)))) _ ⟨0, rfl, rfl, (by first | omega | assumption | rfl | simp_all), look_same⟩ fun κ V G μ hinv hμ hkeep hfr => ?_
  obtain ⟨i, rfl, rfl, hi, hG⟩ := hinv
  refine W.seq ?_
  refine W.sR [1, 2, 3, 4, 6] fun K hK => ?_
  refine st rfl rfl (e_move rfl) ?_
  refine st rfl rfl (e_lss rfl rfl) ?_
  refine stB (fun hb1 => ?_) (fun hb1 => ?_)
  ·
    try simp only [decide_eq_true_eq, decide_eq_false_iff_not, Bool.not_eq_true', Bool.not_eq_false', Bool.not_eq_true, Bool.not_eq_false] at hb1
    refine stEnd (hK _ [(1, _), (2, _), (3, _), (4, _), (6, _)] _ _ rfl ?_)
    clear hK K
    refine W.condT rfl ?_
    refine W.skip ?_
    refine thenN ?_
    refine W.seq ?_
    refine W.block ?_
    refine W.rR [1, 2, 3, 4] fun K hK => ?_
    refine st rfl rfl (e_move rfl) ?_
    refine st rfl rfl (e_move rfl) ?_
    refine st rfl rfl (e_idxAK _ t25 t3 rfl rfl rfl (by first | omega | decide)) ?_
    refine st rfl rfl (e_load1 t3 rfl rfl (by repeat (first | exact look_same | assumption | refine look_ne (by omega) ?_ | refine look_keep (by assumption) (by omega) (by simp; try omega) ?_)) (by first | rfl | exact tri_getL (by omega))) ?_
    refine st rfl rfl (e_idxAK _ t25 t3 rfl rfl rfl (by first | omega | decide)) ?_
    refine stN rfl (e_store1 t3 rfl rfl rfl (by repeat (first | exact look_same | assumption | refine look_ne (by omega) ?_ | refine look_keep (by assumption) (by omega) (by simp; try omega) ?_)) (by rw [copyT_length (by omega)]; omega)) ?_
    refine stEnd (hK _ [(1, _), (2, _), (3, _), (4, _)] _ _ rfl ?_)
    clear hK K
    refine blockN ?_
    refine thenN ?_
    refine W.rR [4, 1, 2, 3] fun K hK => ?_
    refine st rfl rfl (e_move rfl) ?_
    refine st rfl rfl (e_add rfl rfl (inB _ (by omega))) ?_
    refine st rfl rfl (e_assign rfl) ?_
    refine stEnd (hK _ [(4, _), (1, _), (2, _), (3, _)] _ _ rfl ?_)
    clear hK K
    exact roundN (V' := [(4, _)]) [4, 1, 2, 3] rfl (by omega) (by repeat (first | exact Keeps.refl _ _ _ | assumption | refine Keeps.trans ?_ (by assumption) (by omega) (by simp; try omega) | refine Keeps.set ?_ (by first | exact Or.inl (by omega) | (simp; done) | (simp; omega)) | refine Keeps.del ?_ (by first | exact Or.inl (by omega) | (simp; done) | (simp; omega)) | refine Keeps.delO2 ?_ (by omega))) _ (by omega) ⟨i + 1, rfl, rfl, (by first | omega | assumption | simp_all), (look_same.trans (congrArg some (congrArg (Blk.cells false) (copyT_set (by omega)))))⟩
  ·
    try simp only [decide_eq_true_eq, decide_eq_false_iff_not, Bool.not_eq_true', Bool.not_eq_false', Bool.not_eq_true, Bool.not_eq_false] at hb1
    refine stEnd (hK _ [(1, _), (2, _), (3, _), (4, _), (6, _)] _ _ rfl ?_)
    clear hK K
    refine W.condF rfl ?_
    refine W.exit ?_
    refine thenE ?_
    refine thenE ?_
    refine blockX ?_
    refine thenN ?_
    obtain rfl : i = 3 := by omega
    refine W.sR [2] fun K hK => ?_
    refine st rfl rfl (e_loadA t25 rfl rfl (by repeat (first | exact look_same | assumption | refine look_ne (by omega) ?_ | refine look_keep (by assumption) (by omega) (by simp; try omega) ?_)) rfl rfl) ?_
    refine stN rfl (e_storeA t25 rfl rfl (by repeat (first | exact look_same | assumption | refine look_ne (by omega) ?_ | refine look_keep (by assumption) (by omega) (by simp; try omega) ?_)) rfl rfl rfl (by decide)) ?_
    refine stEnd (hK _ [(2, _)] _ _ rfl ?_)
    clear hK K
    refine W.ret ?_
    refine ⟨.inr rfl, Ends.v0 (by repeat (first | exact self_old | assumption | refine set_old ?_ (by omega) | refine keep_old (by assumption) ?_ (by omega) (by simp; try omega))) hfresh (by first | rfl | (simp [ltT, ltA, ltC, ltV]; try omega)) (res1 (resC t25 rfl rfl (by repeat (first | exact look_same | assumption | refine look_ne (by omega) ?_ | refine look_keep (by assumption) (by omega) (by simp; try omega) ?_)) rfl rfl) rfl) ?_⟩
    rfl
theorem laws_toIntA3S_s (b : Nat) (ro : Bool) (cs : List C) (H : Heap) (n : Nat) (hb : H b = some (.cells ro (flat cs))) (hlen : cs.length ≤ 1048576) : Fn Try.prog 19 [.slice (some ⟨b, 0, none⟩) cs.length 3] H n (.slice (some ⟨n, 0, none⟩) cs.length 3) (H.set n (.cells false (flat cs))) (n + 1) := by
  refine Fn.intro' Try.func19 rfl (by kernel_rfl) Try.ntmps19 (by simp) (by omega) fun hfresh => ?_
  have lt_hb := lt_fresh hfresh hb
  show W _ _ _ ⟨[(0, _)], _, _⟩ _
  refine W.sR [0] fun K hK => ?_
  refine st rfl rfl (e_assign rfl) ?_
  refine stEnd (hK _ [(0, _)] _ _ rfl ?_)
  clear hK K
  refine W.sR [0, 3] fun K hK => ?_
  refine st rfl rfl (e_move rfl) ?_
  refine st rfl rfl (e_len t22 rfl) ?_
  refine st rfl rfl (e_make t22 t25 rfl rfl (by decide) (by omega)) ?_
  refine st rfl rfl (e_assign rfl) ?_
  refine stEnd (hK _ [(0, _), (3, _)] _ _ rfl ?_)
  clear hK K
  refine W.seq ?_
  refine W.sR [0, 3, 4] fun K hK => ?_
  refine st rfl rfl (e_assign rfl) ?_
  refine stEnd (hK _ [(0, _), (3, _), (4, _)] _ _ rfl ?_)
  clear hK K
  refine W.block ?_
  refine W.ord [4, 0, 3] (ts' := [(4, _)] ++ [(0, _), (3, _)]) rfl ?_
  refine W.loopC [(4, _)] [n] (fun κ V G μ => ∃ i : Nat, V = [(4, .int .i64 (i : Nat))] ∧ κ = cs.length - i ∧ (i ≤ cs.length) ∧ (G n = some (.cells false (flat (copyC cs i))))) _ ⟨0, rfl, rfl, (by first | omega | assumption | rfl | simp_all), (by rw [copyC_zero, ← zeros_flat]; exact look_same)⟩ fun κ V G μ hinv hμ hkeep hfr => ?_
  obtain ⟨i, rfl, rfl, hi, hG⟩ := hinv
  refine W.seq ?_
  refine W.sR [0, 3, 4, 11] fun K hK => ?_
  refine st rfl rfl (e_move rfl) ?_
  refine st rfl rfl (e_move rfl) ?_
  refine st rfl rfl (e_len t22 rfl) ?_
  refine st rfl rfl (e_lss rfl rfl) ?_
  refine stB (fun hb1 => ?_) (fun hb1 => ?_)
  ·
    try simp only [decide_eq_true_eq, decide_eq_false_iff_not, Bool.not_eq_true', Bool.not_eq_false', Bool.not_eq_true, Bool.not_eq_false] at hb1
    refine stEnd (hK _ [(0, _), (3, _), (4, _), (11, _)] _ _ rfl ?_)
    clear hK K
    refine W.condT rfl ?_
    refine W.skip ?_
    refine thenN ?_
    refine W.seq ?_
    refine W.block ?_
    refine W.rR [0, 3, 4] fun K hK => ?_
    refine st rfl rfl (e_move rfl) ?_
    refine st rfl rfl (e_move rfl) ?_
    refine st rfl rfl (e_move rfl) ?_
    refine st rfl rfl (e_move rfl) ?_
    refine st rfl rfl (e_idxSK _ t22 t25 rfl rfl rfl (by first | omega | decide)) ?_
    refine st rfl rfl (e_loadP t25 rfl rfl (by repeat (first | exact look_same | assumption | refine look_ne (by omega) ?_ | refine look_keep (by assumption) (by omega) (by simp; try omega) ?_)) (flat_at (by omega))) ?_
    refine stC rfl rfl rfl (laws_toIntA3_s _ _ _ ) ?_
    refine st rfl rfl (e_idxSK _ t22 t25 rfl rfl rfl (by first | omega | decide)) ?_
    refine stN rfl (e_storeP t25 rfl rfl (by repeat (first | exact look_same | assumption | refine look_ne (by omega) ?_ | refine look_keep (by assumption) (by omega) (by simp; try omega) ?_)) rfl (by rw [flat_length, copyC_length (by omega)]; omega)) ?_
    refine stEnd (hK _ [(0, _), (3, _), (4, _)] _ _ rfl ?_)
    clear hK K
    refine blockN ?_
    refine thenN ?_
    refine W.rR [4, 0, 3] fun K hK => ?_
    refine st rfl rfl (e_move rfl) ?_
    refine st rfl rfl (e_add rfl rfl (inB _ (by omega))) ?_
    refine st rfl rfl (e_assign rfl) ?_
    refine stEnd (hK _ [(4, _), (0, _), (3, _)] _ _ rfl ?_)
    clear hK K
    exact roundN (V' := [(4, _)]) [4, 0, 3] rfl (by omega) (by repeat (first | exact Keeps.refl _ _ _ | assumption | refine Keeps.trans ?_ (by assumption) (by omega) (by simp; try omega) | refine Keeps.set ?_ (by first | exact Or.inl (by omega) | (simp; done) | (simp; omega)) | refine Keeps.del ?_ (by first | exact Or.inl (by omega) | (simp; done) | (simp; omega)) | refine Keeps.delO2 ?_ (by omega))) _ (by omega) ⟨i + 1, rfl, rfl, (by first | omega | assumption | simp_all), (look_same.trans (congrArg some (congrArg (Blk.cells false) ((flat_set (c := at3 cs i) (by rw [copyC_length (by omega)]; omega)).trans (congrArg flat (copyC_set (by omega)))))))⟩
  ·
    try simp only [decide_eq_true_eq, decide_eq_false_iff_not, Bool.not_eq_true', Bool.not_eq_false', Bool.not_eq_true, Bool.not_eq_false] at hb1
    refine stEnd (hK _ [(0, _), (3, _), (4, _), (11, _)] _ _ rfl ?_)
    clear hK K
    refine W.condF rfl ?_
    refine W.exit ?_
    refine thenE ?_
    refine thenE ?_
    refine blockX ?_
    refine thenN ?_
    refine W.sR [2] fun K hK => ?_
    refine st rfl rfl (e_move rfl) ?_
    refine st rfl rfl (e_assign rfl) ?_
    refine stEnd (hK _ [(2, _)] _ _ rfl ?_)
    clear hK K
    refine W.ret ?_
    refine ⟨.inr rfl, Ends.v1 (n) (by omega) (by repeat (first | exact self_old | assumption | refine set_old ?_ (by omega) | refine keep_old (by assumption) ?_ (by omega) (by simp; try omega))) hfresh (by repeat (first | exact look_same | assumption | refine look_ne (by omega) ?_ | refine look_keep (by assumption) (by omega) (by simp; try omega) ?_)) ?_ (by first | exact flat_plain _ | exact ints_plain _) (by simp [ltT, ltA, ltC, ltV]; try omega) (res1 (resT rfl) rfl) ?_⟩
    · (obtain rfl : i = cs.length := by omega); rw [copyC_all]
    · first | rfl | simp [renT, renV, renC, renA, one]
theorem laws_toIntA3S_row_s (sv : Value) (cs : List C) (r : Nat) (H : Heap) (n : Nat) (hr : RowC H r sv cs) (hlen : cs.length ≤ 1048576) : Fn Try.prog 19 [sv] H n (.slice (some ⟨n, 0, none⟩) cs.length 3) (H.set n (.cells false (flat cs))) (n + 1) := by
  rcases hr with ⟨rfl, rfl⟩ | ⟨b, _, rfl, hb⟩
  · exact laws_toIntA3S_nil_s H n
  · exact laws_toIntA3S_s b true cs H n hb hlen
theorem laws_toHeap_s (X Y Z : Int) (sv : Value) (cs : List C) (r : Nat) (H : Heap) (n : Nat) (hr : RowC H r sv cs) (hrn : r ≤ n) (hlen : cs.length ≤ 1048576) : Fn Try.prog 18 [.agg #[.int .i64 X, .int .i64 Y, .int .i64 Z, sv]] H n (.agg #[.int .i64 X, .int .i64 Y, .int .i64 Z, .slice (some ⟨n, 0, none⟩) cs.length 3]) (H.set n (.cells false (flat cs))) (n + 1) := by
  refine Fn.intro' Try.func18 rfl (by kernel_rfl) Try.ntmps18 (by simp) (by omega) fun hfresh => ?_
  obtain ⟨p, e, rfl⟩ := hr.form
  show W _ _ _ ⟨[(0, _)], _, _⟩ _
  refine W.sR [1, 2] fun K hK => ?_
  refine st rfl rfl (e_boxA rfl) ?_
  refine st rfl rfl (e_alloc t30 rfl) ?_
  refine stEnd (hK _ [(1, _), (2, _)] _ _ rfl ?_)
  clear hK K
  refine W.sR [1, 2, 3] fun K hK => ?_
  refine st rfl rfl (e_alloc t30 rfl) ?_
  refine stEnd (hK _ [(1, _), (2, _), (3, _)] _ _ rfl ?_)
  clear hK K
  refine W.sR [1, 2, 3] fun K hK => ?_
  refine st rfl rfl (e_fieldAddr t24 t3 rfl rfl) ?_
  refine st rfl rfl (e_load1 t3 rfl rfl (by repeat (first | exact look_same | assumption | refine look_ne (by omega) ?_)) rfl) ?_
  refine st rfl rfl (e_fieldAddr t30 t3 rfl rfl) ?_
  refine stN rfl (e_store1 t3 rfl rfl rfl (by repeat (first | exact look_same | assumption | refine look_ne (by omega) ?_)) (by first | decide | (simp only [ints_length, flat_length]; omega) | (simp; done) | (simp; omega))) ?_
  refine stEnd (hK _ [(1, _), (2, _), (3, _)] _ _ rfl ?_)
  clear hK K
  refine W.sR [1, 2, 3] fun K hK => ?_
  refine st rfl rfl (e_fieldAddr t24 t3 rfl rfl) ?_
  refine st rfl rfl (e_load1 t3 rfl rfl (by repeat (first | exact look_same | assumption | refine look_ne (by omega) ?_)) rfl) ?_
  refine st rfl rfl (e_fieldAddr t30 t3 rfl rfl) ?_
  refine stN rfl (e_store1 t3 rfl rfl rfl (by repeat (first | exact look_same | assumption | refine look_ne (by omega) ?_)) (by first | decide | (simp only [ints_length, flat_length]; omega) | (simp; done) | (simp; omega))) ?_
  refine stEnd (hK _ [(1, _), (2, _), (3, _)] _ _ rfl ?_)
  clear hK K
  refine W.sR [1, 2, 3] fun K hK => ?_
  refine st rfl rfl (e_fieldAddr t24 t3 rfl rfl) ?_
  refine st rfl rfl (e_load1 t3 rfl rfl (by repeat (first | exact look_same | assumption | refine look_ne (by omega) ?_)) rfl) ?_
  refine st rfl rfl (e_fieldAddr t30 t3 rfl rfl) ?_
  refine stN rfl (e_store1 t3 rfl rfl rfl (by repeat (first | exact look_same | assumption | refine look_ne (by omega) ?_)) (by first | decide | (simp only [ints_length, flat_length]; omega) | (simp; done) | (simp; omega))) ?_
  refine stEnd (hK _ [(1, _), (2, _), (3, _)] _ _ rfl ?_)
  clear hK K
  refine W.sR [2, 3] fun K hK => ?_
  refine st rfl rfl (e_fieldAddr t24 t22 rfl rfl) ?_
  refine st rfl rfl (e_load1 t22 rfl rfl (by repeat (first | exact look_same | assumption | refine look_ne (by omega) ?_)) rfl) ?_
  refine stC rfl rfl rfl (laws_toIntA3S_row_s _ _ _ _ _ (RowC.keep hr (by omega) (by repeat (first | exact self_old | assumption | refine set_old ?_ (by omega)))) (by omega)) ?_
  refine st rfl rfl (e_fieldAddr t30 t22 rfl rfl) ?_
  refine stN rfl (e_store1 t22 rfl rfl rfl (by repeat (first | exact look_same | assumption | refine look_ne (by omega) ?_)) (by first | decide | (simp only [ints_length, flat_length]; omega) | (simp; done) | (simp; omega))) ?_
  refine stEnd (hK _ [(2, _), (3, _)] _ _ rfl ?_)
  clear hK K
  refine W.sR [2] fun K hK => ?_
  refine st rfl rfl (e_loadA t30 rfl rfl (by repeat (first | exact look_same | assumption | refine look_ne (by omega) ?_)) rfl rfl) ?_
  refine stN rfl (e_storeA t30 rfl rfl (by repeat (first | exact look_same | assumption | refine look_ne (by omega) ?_)) rfl rfl rfl (by decide)) ?_
  refine stEnd (hK _ [(2, _)] _ _ rfl ?_)
  clear hK K
  refine W.ret ?_
  refine ⟨.inr rfl, Ends.v1 (n + 1 + 1 + 1) (by omega) (by repeat (first | exact self_old | assumption | refine set_old ?_ (by omega))) hfresh (by repeat (first | exact look_same | assumption | refine look_ne (by omega) ?_)) ?_ (by first | exact flat_plain _ | exact ints_plain _) (by simp [ltT, ltA, ltC, ltV]; try omega) (res1 (resC t30 rfl rfl (by repeat (first | exact look_same | assumption | refine look_ne (by omega) ?_)) rfl rfl) rfl) ?_⟩
  · rfl
  · first | rfl | simp [renT, renV, renC, renA, one]
theorem spec_l1In_s (a b c : Int) (H : Heap) (n : Nat) : Fn Try.prog 111 [.int .i64 a, .int .i64 b, .int .i64 c] H n (.bool (within a b c)) (H) (n) := by
  refine Fn.intro' Try.func111 rfl (by kernel_rfl) Try.ntmps111 (by simp) (by omega) fun hfresh => ?_
  show W _ _ _ ⟨[(0, _), (1, _), (2, _)], _, _⟩ _
  refine W.sR [0, 1, 2] fun K hK => ?_
  refine st rfl rfl (e_assign rfl) ?_
  refine stEnd (hK _ [(0, _), (1, _), (2, _)] _ _ rfl ?_)
  clear hK K
  refine W.sR [6] fun K hK => ?_
  refine st rfl rfl (e_move rfl) ?_
  refine st rfl rfl (e_move rfl) ?_
  refine st rfl rfl (e_geq rfl rfl) ?_
  refine st rfl rfl (e_move rfl) ?_
  refine stB (fun hb1 => ?_) (fun hb1 => ?_)
  ·
    try simp only [decide_eq_true_eq, decide_eq_false_iff_not, Bool.not_eq_true', Bool.not_eq_false', Bool.not_eq_true, Bool.not_eq_false] at hb1
    refine st rfl rfl (e_move rfl) ?_
    refine st rfl rfl (e_move rfl) ?_
    refine st rfl rfl (e_leq rfl rfl) ?_
    refine st rfl rfl (e_pickT rfl rfl) ?_
    refine st rfl rfl (e_assign rfl) ?_
    refine stEnd (hK _ [(6, _)] _ _ rfl ?_)
    clear hK K
    refine W.ret ?_
    refine ⟨.inr rfl, Ends.v0 (by repeat (first | exact self_old | assumption | refine set_old ?_ (by omega))) hfresh (by first | rfl | (simp [ltT, ltA, ltC, ltV]; try omega)) (res1 (resT rfl) rfl) ?_⟩
    simp [within, *] <;> omega
  ·
    try simp only [decide_eq_true_eq, decide_eq_false_iff_not, Bool.not_eq_true', Bool.not_eq_false', Bool.not_eq_true, Bool.not_eq_false] at hb1
    refine stS rfl rfl ?_
    refine stS rfl rfl ?_
    refine stS rfl rfl ?_
    refine st rfl rfl (e_pickF rfl rfl) ?_
    refine st rfl rfl (e_assign rfl) ?_
    refine stEnd (hK _ [(6, _)] _ _ rfl ?_)
    clear hK K
    refine W.ret ?_
    refine ⟨.inr rfl, Ends.v0 (by repeat (first | exact self_old | assumption | refine set_old ?_ (by omega))) hfresh (by first | rfl | (simp [ltT, ltA, ltC, ltV]; try omega)) (res1 (resT rfl) rfl) ?_⟩
    simp [within, *] <;> omega
theorem spec_l2Sides_s (X Y Z : Int) (H : Heap) (n : Nat) : Fn Try.prog 109 [.int .i64 X, .int .i64 Y, .int .i64 Z] H n (.bool (sides X Y Z)) (H) (n) := by
  refine Fn.intro' Try.func109 rfl (by kernel_rfl) Try.ntmps109 (by simp) (by omega) fun hfresh => ?_
  show W _ _ _ ⟨[(0, _), (1, _), (2, _)], _, _⟩ _
  refine W.sR [0, 1, 2] fun K hK => ?_
  refine st rfl rfl (e_assign rfl) ?_
  refine stEnd (hK _ [(0, _), (1, _), (2, _)] _ _ rfl ?_)
  clear hK K
  refine W.sR [6] fun K hK => ?_
  refine st rfl rfl (e_move rfl) ?_
  refine stC rfl rfl rfl (spec_l1In_s _ _ _ _ _ ) ?_
  refine st rfl rfl (e_move rfl) ?_
  refine stB (fun hb1 => ?_) (fun hb1 => ?_)
  ·
    try simp only [decide_eq_true_eq, decide_eq_false_iff_not, Bool.not_eq_true', Bool.not_eq_false', Bool.not_eq_true, Bool.not_eq_false] at hb1
    refine st rfl rfl (e_move rfl) ?_
    refine stC rfl rfl rfl (spec_l1In_s _ _ _ _ _ ) ?_
    refine st rfl rfl (e_pickT rfl rfl) ?_
    refine st rfl rfl (e_move rfl) ?_
    refine stB (fun hb2 => ?_) (fun hb2 => ?_)
    ·
      try simp only [decide_eq_true_eq, decide_eq_false_iff_not, Bool.not_eq_true', Bool.not_eq_false', Bool.not_eq_true, Bool.not_eq_false] at hb2
      refine st rfl rfl (e_move rfl) ?_
      refine stC rfl rfl rfl (spec_l1In_s _ _ _ _ _ ) ?_
      refine st rfl rfl (e_pickT rfl rfl) ?_
      refine st rfl rfl (e_assign rfl) ?_
      refine stEnd (hK _ [(6, _)] _ _ rfl ?_)
      clear hK K
      refine W.ret ?_
      refine ⟨.inr rfl, Ends.v0 (by repeat (first | exact self_old | assumption | refine set_old ?_ (by omega))) hfresh (by first | rfl | (simp [ltT, ltA, ltC, ltV]; try omega)) (res1 (resT rfl) rfl) ?_⟩
      simp_all [sides]
    ·
      try simp only [decide_eq_true_eq, decide_eq_false_iff_not, Bool.not_eq_true', Bool.not_eq_false', Bool.not_eq_true, Bool.not_eq_false] at hb2
      refine stS rfl rfl ?_
      refine stS rfl rfl ?_
      refine st rfl rfl (e_pickF rfl rfl) ?_
      refine st rfl rfl (e_assign rfl) ?_
      refine stEnd (hK _ [(6, _)] _ _ rfl ?_)
      clear hK K
      refine W.ret ?_
      refine ⟨.inr rfl, Ends.v0 (by repeat (first | exact self_old | assumption | refine set_old ?_ (by omega))) hfresh (by first | rfl | (simp [ltT, ltA, ltC, ltV]; try omega)) (res1 (resT rfl) rfl) ?_⟩
      simp_all [sides]
  ·
    try simp only [decide_eq_true_eq, decide_eq_false_iff_not, Bool.not_eq_true', Bool.not_eq_false', Bool.not_eq_true, Bool.not_eq_false] at hb1
    refine stS rfl rfl ?_
    refine stS rfl rfl ?_
    refine st rfl rfl (e_pickF rfl rfl) ?_
    refine st rfl rfl (e_move rfl) ?_
    refine stS rfl rfl ?_
    refine stS rfl rfl ?_
    refine st rfl rfl (e_pickF rfl rfl) ?_
    refine st rfl rfl (e_assign rfl) ?_
    refine stEnd (hK _ [(6, _)] _ _ rfl ?_)
    clear hK K
    refine W.ret ?_
    refine ⟨.inr rfl, Ends.v0 (by repeat (first | exact self_old | assumption | refine set_old ?_ (by omega))) hfresh (by first | rfl | (simp [ltT, ltA, ltC, ltV]; try omega)) (res1 (resT rfl) rfl) ?_⟩
    simp_all [sides]
theorem spec_l2In_s (X Y Z : Int) (sv : Value) (c : C) (H : Heap) (n : Nat) (hX : (1 ≤ X ∧ X ≤ 4) ∧ (1 ≤ Y ∧ Y ≤ 4) ∧ (1 ≤ Z ∧ Z ≤ 4)) : Fn Try.prog 83 [.agg #[.int .i64 X, .int .i64 Y, .int .i64 Z, sv], .agg #[.int .i64 c.1, .int .i64 c.2.1, .int .i64 c.2.2]] H n (.bool (inBox X Y Z c)) (H) (n) := by
  refine Fn.intro' Try.func83 rfl (by kernel_rfl) Try.ntmps83 (by simp) (by omega) fun hfresh => ?_
  show W _ _ _ ⟨[(0, _), (1, _)], _, _⟩ _
  refine W.sR [2, 3] fun K hK => ?_
  refine st rfl rfl (e_boxA rfl) ?_
  refine st rfl rfl (e_boxA rfl) ?_
  refine st rfl rfl (e_assign rfl) ?_
  refine stEnd (hK _ [(2, _), (3, _)] _ _ rfl ?_)
  clear hK K
  refine W.sR [4] fun K hK => ?_
  refine st rfl rfl (e_idxAK (0) t25 t3 rfl rfl (by first | rfl | omega) (by first | omega | decide)) ?_
  refine st rfl rfl (e_load1 t3 rfl rfl (by repeat (first | exact look_same | assumption | refine look_ne (by omega) ?_)) (by first | rfl | exact tri_getL (by omega))) ?_
  refine st rfl rfl (e_fieldAddr t30 t3 rfl rfl) ?_
  refine st rfl rfl (e_load1 t3 rfl rfl (by repeat (first | exact look_same | assumption | refine look_ne (by omega) ?_)) rfl) ?_
  refine st rfl rfl (e_sub rfl rfl (inB _ (by omega))) ?_
  refine stC rfl rfl rfl (spec_l1In_s _ _ _ _ _ ) ?_
  refine st rfl rfl (e_move rfl) ?_
  refine stB (fun hb1 => ?_) (fun hb1 => ?_)
  ·
    try simp only [decide_eq_true_eq, decide_eq_false_iff_not, Bool.not_eq_true', Bool.not_eq_false', Bool.not_eq_true, Bool.not_eq_false] at hb1
    refine st rfl rfl (e_idxAK (1) t25 t3 rfl rfl (by first | rfl | omega) (by first | omega | decide)) ?_
    refine st rfl rfl (e_load1 t3 rfl rfl (by repeat (first | exact look_same | assumption | refine look_ne (by omega) ?_)) (by first | rfl | exact tri_getL (by omega))) ?_
    refine st rfl rfl (e_fieldAddr t30 t3 rfl rfl) ?_
    refine st rfl rfl (e_load1 t3 rfl rfl (by repeat (first | exact look_same | assumption | refine look_ne (by omega) ?_)) rfl) ?_
    refine st rfl rfl (e_sub rfl rfl (inB _ (by omega))) ?_
    refine stC rfl rfl rfl (spec_l1In_s _ _ _ _ _ ) ?_
    refine st rfl rfl (e_pickT rfl rfl) ?_
    refine st rfl rfl (e_move rfl) ?_
    refine stB (fun hb2 => ?_) (fun hb2 => ?_)
    ·
      try simp only [decide_eq_true_eq, decide_eq_false_iff_not, Bool.not_eq_true', Bool.not_eq_false', Bool.not_eq_true, Bool.not_eq_false] at hb2
      refine st rfl rfl (e_idxAK (2) t25 t3 rfl rfl (by first | rfl | omega) (by first | omega | decide)) ?_
      refine st rfl rfl (e_load1 t3 rfl rfl (by repeat (first | exact look_same | assumption | refine look_ne (by omega) ?_)) (by first | rfl | exact tri_getL (by omega))) ?_
      refine st rfl rfl (e_fieldAddr t30 t3 rfl rfl) ?_
      refine st rfl rfl (e_load1 t3 rfl rfl (by repeat (first | exact look_same | assumption | refine look_ne (by omega) ?_)) rfl) ?_
      refine st rfl rfl (e_sub rfl rfl (inB _ (by omega))) ?_
      refine stC rfl rfl rfl (spec_l1In_s _ _ _ _ _ ) ?_
      refine st rfl rfl (e_pickT rfl rfl) ?_
      refine st rfl rfl (e_assign rfl) ?_
      refine stEnd (hK _ [(4, _)] _ _ rfl ?_)
      clear hK K
      refine W.ret ?_
      refine ⟨.inr rfl, Ends.v0 (by repeat (first | exact self_old | assumption | refine set_old ?_ (by omega))) hfresh (by first | rfl | (simp [ltT, ltA, ltC, ltV]; try omega)) (res1 (resT rfl) rfl) ?_⟩
      simp_all [inBox]
    ·
      try simp only [decide_eq_true_eq, decide_eq_false_iff_not, Bool.not_eq_true', Bool.not_eq_false', Bool.not_eq_true, Bool.not_eq_false] at hb2
      refine stS rfl rfl ?_
      refine stS rfl rfl ?_
      refine stS rfl rfl ?_
      refine stS rfl rfl ?_
      refine stS rfl rfl ?_
      refine stS rfl rfl ?_
      refine st rfl rfl (e_pickF rfl rfl) ?_
      refine st rfl rfl (e_assign rfl) ?_
      refine stEnd (hK _ [(4, _)] _ _ rfl ?_)
      clear hK K
      refine W.ret ?_
      refine ⟨.inr rfl, Ends.v0 (by repeat (first | exact self_old | assumption | refine set_old ?_ (by omega))) hfresh (by first | rfl | (simp [ltT, ltA, ltC, ltV]; try omega)) (res1 (resT rfl) rfl) ?_⟩
      simp_all [inBox]
  ·
    try simp only [decide_eq_true_eq, decide_eq_false_iff_not, Bool.not_eq_true', Bool.not_eq_false', Bool.not_eq_true, Bool.not_eq_false] at hb1
    refine stS rfl rfl ?_
    refine stS rfl rfl ?_
    refine stS rfl rfl ?_
    refine stS rfl rfl ?_
    refine stS rfl rfl ?_
    refine stS rfl rfl ?_
    refine st rfl rfl (e_pickF rfl rfl) ?_
    refine st rfl rfl (e_move rfl) ?_
    refine stS rfl rfl ?_
    refine stS rfl rfl ?_
    refine stS rfl rfl ?_
    refine stS rfl rfl ?_
    refine stS rfl rfl ?_
    refine stS rfl rfl ?_
    refine st rfl rfl (e_pickF rfl rfl) ?_
    refine st rfl rfl (e_assign rfl) ?_
    refine stEnd (hK _ [(4, _)] _ _ rfl ?_)
    clear hK K
    refine W.ret ?_
    refine ⟨.inr rfl, Ends.v0 (by repeat (first | exact self_old | assumption | refine set_old ?_ (by omega))) hfresh (by first | rfl | (simp [ltT, ltA, ltC, ltV]; try omega)) (res1 (resT rfl) rfl) ?_⟩
    simp_all [inBox]
theorem spec_l2Before_s (a b : C) (H : Heap) (n : Nat) : Fn Try.prog 110 [.agg #[.int .i64 a.1, .int .i64 a.2.1, .int .i64 a.2.2], .agg #[.int .i64 b.1, .int .i64 b.2.1, .int .i64 b.2.2]] H n (.bool (before a b)) (H) (n) := by
  refine Fn.intro' Try.func110 rfl (by kernel_rfl) Try.ntmps110 (by simp) (by omega) fun hfresh => ?_
  show W _ _ _ ⟨[(0, _), (1, _)], _, _⟩ _
  refine W.sR [2, 3] fun K hK => ?_
  refine st rfl rfl (e_boxA rfl) ?_
  refine st rfl rfl (e_boxA rfl) ?_
  refine st rfl rfl (e_assign rfl) ?_
  refine stEnd (hK _ [(2, _), (3, _)] _ _ rfl ?_)
  clear hK K
  refine W.seq ?_
  refine W.sR [2, 3, 5] fun K hK => ?_
  refine st rfl rfl (e_assign rfl) ?_
  refine stEnd (hK _ [(2, _), (3, _), (5, _)] _ _ rfl ?_)
  clear hK K
  refine W.block ?_
  refine W.ord [5, 2, 3] (ts' := [(5, _)] ++ [(2, _), (3, _)]) rfl ?_
  refine W.loopC [(5, _)] [] (fun κ V G μ => ∃ i : Nat, V = [(5, .int .i64 (i : Nat))] ∧ κ = 3 - i ∧ (i ≤ 3) ∧ (∀ j, j < i → ci a j = ci b j)) _ ⟨0, rfl, rfl, (by first | omega | assumption | rfl | simp_all), (fun j hj => absurd hj (by omega))⟩ fun κ V G μ hinv hμ hkeep hfr => ?_
  obtain ⟨i, rfl, rfl, hi, hq⟩ := hinv
  refine W.seq ?_
  refine W.sR [2, 3, 5, 7] fun K hK => ?_
  refine st rfl rfl (e_move rfl) ?_
  refine st rfl rfl (e_lss rfl rfl) ?_
  refine stB (fun hb1 => ?_) (fun hb1 => ?_)
  ·
    try simp only [decide_eq_true_eq, decide_eq_false_iff_not, Bool.not_eq_true', Bool.not_eq_false', Bool.not_eq_true, Bool.not_eq_false] at hb1
    refine stEnd (hK _ [(2, _), (3, _), (5, _), (7, _)] _ _ rfl ?_)
    clear hK K
    refine W.condT rfl ?_
    refine W.skip ?_
    refine thenN ?_
    refine W.seq ?_
    refine W.block ?_
    refine W.sD [2, 3, 5, 16] [0, 1, 3, 0, 8, 24, 63] (by kernel_rfl) (by kernel_rfl) fun K hK => ?_
    refine dP rfl rfl rfl (e_move rfl) ?_
    refine dP rfl rfl rfl (e_idxAK _ t25 t3 rfl rfl rfl (by first | omega | decide)) ?_
    refine dL rfl rfl rfl (by omega) (accB_ok rfl) (e_load1 t3 rfl rfl (by repeat (first | exact look_same | assumption | refine look_ne (by omega) ?_ | refine look_keep (by assumption) (by omega) (by simp; try omega) ?_)) (by first | rfl | exact tri_getL (by omega))) ?_
    refine dP rfl rfl rfl (e_move rfl) ?_
    refine dP rfl rfl rfl (e_idxAK _ t25 t3 rfl rfl rfl (by first | omega | decide)) ?_
    refine dL rfl rfl rfl (by omega) (accB_ok rfl) (e_load1 t3 rfl rfl (by repeat (first | exact look_same | assumption | refine look_ne (by omega) ?_ | refine look_keep (by assumption) (by omega) (by simp; try omega) ?_)) (by first | rfl | exact tri_getL (by omega))) ?_
    refine dP rfl rfl rfl (e_neq rfl rfl) ?_
    refine dB (fun hb2 => ?_) (fun hb2 => ?_)
    ·
      try simp only [decide_eq_true_eq, decide_eq_false_iff_not, Bool.not_eq_true', Bool.not_eq_false', Bool.not_eq_true, Bool.not_eq_false] at hb2
      refine dEnd (hK _ [(2, _), (3, _), (5, _), (16, _)] _ _ rfl ?_)
      clear hK K
      refine W.condT rfl ?_
      refine W.sD [4] [0, 1, 3, 0, 8, 24, 63, 127] (by kernel_rfl) (by kernel_rfl) fun K hK => ?_
      refine dP rfl rfl rfl (e_move rfl) ?_
      refine dP rfl rfl rfl (e_idxAK _ t25 t3 rfl rfl rfl (by first | omega | decide)) ?_
      refine dL rfl rfl rfl (by omega) (accB_ok rfl) (e_load1 t3 rfl rfl (by repeat (first | exact look_same | assumption | refine look_ne (by omega) ?_ | refine look_keep (by assumption) (by omega) (by simp; try omega) ?_)) (by first | rfl | exact tri_getL (by omega))) ?_
      refine dP rfl rfl rfl (e_move rfl) ?_
      refine dP rfl rfl rfl (e_idxAK _ t25 t3 rfl rfl rfl (by first | omega | decide)) ?_
      refine dL rfl rfl rfl (by omega) (accB_ok rfl) (e_load1 t3 rfl rfl (by repeat (first | exact look_same | assumption | refine look_ne (by omega) ?_ | refine look_keep (by assumption) (by omega) (by simp; try omega) ?_)) (by first | rfl | exact tri_getL (by omega))) ?_
      refine dP rfl rfl rfl (e_lss rfl rfl) ?_
      refine dP rfl rfl rfl (e_assign rfl) ?_
      refine dEnd (hK _ [(4, _)] _ _ rfl ?_)
      clear hK K
      refine W.ret ?_
      refine blockR ?_
      refine thenR ?_
      refine thenR ?_
      refine blockR ?_
      refine thenR ?_
      refine ⟨.inr rfl, Ends.v0 (by repeat (first | exact self_old | assumption | refine set_old ?_ (by omega) | refine keep_old (by assumption) ?_ (by omega) (by simp; try omega))) hfresh (by first | rfl | (simp [ltT, ltA, ltC, ltV]; try omega)) (res1 (resT rfl) rfl) ?_⟩
      first | exact congrArg Value.bool (before_at (by omega) hq (by assumption)).symm | rw [before_no (fun j hj => hq j (by omega))]
    ·
      try simp only [decide_eq_true_eq, decide_eq_false_iff_not, Bool.not_eq_true', Bool.not_eq_false', Bool.not_eq_true, Bool.not_eq_false] at hb2
      refine dEnd (hK _ [(2, _), (3, _), (5, _), (16, _)] _ _ rfl ?_)
      clear hK K
      refine W.condF rfl ?_
      refine W.skip ?_
      refine blockN ?_
      refine thenN ?_
      refine W.rR [5, 2, 3] fun K hK => ?_
      refine st rfl rfl (e_move rfl) ?_
      refine st rfl rfl (e_add rfl rfl (inB _ (by omega))) ?_
      refine st rfl rfl (e_assign rfl) ?_
      refine stEnd (hK _ [(5, _), (2, _), (3, _)] _ _ rfl ?_)
      clear hK K
      exact roundN (V' := [(5, _)]) [5, 2, 3] rfl (by omega) (by repeat (first | exact Keeps.refl _ _ _ | assumption | refine Keeps.trans ?_ (by assumption) (by omega) (by simp; try omega) | refine Keeps.set ?_ (by first | exact Or.inl (by omega) | (simp; done) | (simp; omega)) | refine Keeps.del ?_ (by first | exact Or.inl (by omega) | (simp; done) | (simp; omega)) | refine Keeps.delO2 ?_ (by omega))) _ (by omega) ⟨i + 1, rfl, rfl, (by first | omega | assumption | simp_all), (all_succ hq (by assumption))⟩
  ·
    try simp only [decide_eq_true_eq, decide_eq_false_iff_not, Bool.not_eq_true', Bool.not_eq_false', Bool.not_eq_true, Bool.not_eq_false] at hb1
    refine stEnd (hK _ [(2, _), (3, _), (5, _), (7, _)] _ _ rfl ?_)
    clear hK K
    refine W.condF rfl ?_
    refine W.exit ?_
    refine thenE ?_
    refine thenE ?_
    refine blockX ?_
    refine thenN ?_
    refine W.sR [4] fun K hK => ?_
    refine st rfl rfl (e_assign rfl) ?_
    refine stEnd (hK _ [(4, _)] _ _ rfl ?_)
    clear hK K
    refine W.ret ?_
    refine ⟨.inr rfl, Ends.v0 (by repeat (first | exact self_old | assumption | refine set_old ?_ (by omega) | refine keep_old (by assumption) ?_ (by omega) (by simp; try omega))) hfresh (by first | rfl | (simp [ltT, ltA, ltC, ltV]; try omega)) (res1 (resT rfl) rfl) ?_⟩
    first | exact congrArg Value.bool (before_at (by omega) hq (by assumption)).symm | rw [before_no (fun j hj => hq j (by omega))]
theorem spec_l2Heap_s (X Y Z : Int) (b : Nat) (ro : Bool) (cs : List C) (H : Heap) (n : Nat) (hb : H b = some (.cells ro (flat cs))) (hlen : cs.length ≤ 1048576) : Fn Try.prog 57 [.agg #[.int .i64 X, .int .i64 Y, .int .i64 Z, .slice (some ⟨b, 0, none⟩) cs.length 3]] H n (.bool (isHeap X Y Z cs)) (H) (n) := by
  refine Fn.intro' Try.func57 rfl (by kernel_rfl) Try.ntmps57 (by simp) (by omega) fun hfresh => ?_
  have lt_hb := lt_fresh hfresh hb
  show W _ _ _ ⟨[(0, _)], _, _⟩ _
  refine W.sR [1] fun K hK => ?_
  refine st rfl rfl (e_boxA rfl) ?_
  refine st rfl rfl (e_assign rfl) ?_
  refine stEnd (hK _ [(1, _)] _ _ rfl ?_)
  clear hK K
  refine W.seq ?_
  refine W.sR [1, 11] fun K hK => ?_
  refine st rfl rfl (e_fieldAddr t30 t3 rfl rfl) ?_
  refine st rfl rfl (e_load1 t3 rfl rfl (by repeat (first | exact look_same | assumption | refine look_ne (by omega) ?_ | refine look_keep (by assumption) (by omega) (by simp; try omega) ?_)) rfl) ?_
  refine st rfl rfl (e_fieldAddr t30 t3 rfl rfl) ?_
  refine st rfl rfl (e_load1 t3 rfl rfl (by repeat (first | exact look_same | assumption | refine look_ne (by omega) ?_ | refine look_keep (by assumption) (by omega) (by simp; try omega) ?_)) rfl) ?_
  refine st rfl rfl (e_fieldAddr t30 t3 rfl rfl) ?_
  refine st rfl rfl (e_load1 t3 rfl rfl (by repeat (first | exact look_same | assumption | refine look_ne (by omega) ?_ | refine look_keep (by assumption) (by omega) (by simp; try omega) ?_)) rfl) ?_
  refine stC rfl rfl rfl (spec_l2Sides_s _ _ _ _ _ ) ?_
  refine st rfl rfl (e_not rfl) ?_
  refine stB (fun hv => ?_) (fun hv => ?_)
  ·
    try simp only [decide_eq_true_eq, decide_eq_false_iff_not, Bool.not_eq_true', Bool.not_eq_false', Bool.not_eq_true, Bool.not_eq_false] at hv
    refine stEnd (hK _ [(1, _), (11, _)] _ _ rfl ?_)
    clear hK K
    refine W.condT rfl ?_
    refine W.sR [2] fun K hK => ?_
    refine st rfl rfl (e_assign rfl) ?_
    refine stEnd (hK _ [(2, _)] _ _ rfl ?_)
    clear hK K
    refine W.ret ?_
    refine thenR ?_
    refine ⟨.inr rfl, Ends.v0 (by repeat (first | exact self_old | assumption | refine set_old ?_ (by omega) | refine keep_old (by assumption) ?_ (by omega) (by simp; try omega))) hfresh (by first | rfl | (simp [ltT, ltA, ltC, ltV]; try omega)) (res1 (resT rfl) rfl) ?_⟩
    first | (rw [isHeap_no1 hv]) | (rw [isHeap_yes hv (fun j hj => hq j (by omega))]) | (rw [isHeap_no2 (i := i) (by omega) (by first | exact okAt_no1 (by assumption) | exact okAt_no2 (by omega) (by assumption) | exact okAt_no3 (by omega) (by assumption))])
  ·
    try simp only [decide_eq_true_eq, decide_eq_false_iff_not, Bool.not_eq_true', Bool.not_eq_false', Bool.not_eq_true, Bool.not_eq_false] at hv
    have hX := sides_bd hv
    refine stEnd (hK _ [(1, _), (11, _)] _ _ rfl ?_)
    clear hK K
    refine W.condF rfl ?_
    refine W.skip ?_
    refine thenN ?_
    refine W.seq ?_
    refine W.sR [1, 3] fun K hK => ?_
    refine st rfl rfl (e_assign rfl) ?_
    refine stEnd (hK _ [(1, _), (3, _)] _ _ rfl ?_)
    clear hK K
    refine W.block ?_
    refine W.ord [3, 1] (ts' := [(3, _)] ++ [(1, _)]) rfl ?_
    refine W.loopC [(3, _)] [] (fun κ V G μ => ∃ i : Nat, V = [(3, .int .i64 (i : Nat))] ∧ κ = cs.length - i ∧ (i ≤ cs.length) ∧ (∀ j, j < i → okAt X Y Z cs j = true)) _ ⟨0, rfl, rfl, (by first | omega | assumption | rfl | simp_all), (fun j hj => absurd hj (by omega))⟩ fun κ V G μ hinv hμ hkeep hfr => ?_
    obtain ⟨i, rfl, rfl, hi, hq⟩ := hinv
    refine W.seq ?_
    refine W.sR [1, 3, 16] fun K hK => ?_
    refine st rfl rfl (e_move rfl) ?_
    refine st rfl rfl (e_fieldAddr t30 t22 rfl rfl) ?_
    refine st rfl rfl (e_load1 t22 rfl rfl (by repeat (first | exact look_same | assumption | refine look_ne (by omega) ?_ | refine look_keep (by assumption) (by omega) (by simp; try omega) ?_)) rfl) ?_
    refine st rfl rfl (e_len t22 rfl) ?_
    refine st rfl rfl (e_lss rfl rfl) ?_
    refine stB (fun hb2 => ?_) (fun hb2 => ?_)
    ·
      try simp only [decide_eq_true_eq, decide_eq_false_iff_not, Bool.not_eq_true', Bool.not_eq_false', Bool.not_eq_true, Bool.not_eq_false] at hb2
      refine stEnd (hK _ [(1, _), (3, _), (16, _)] _ _ rfl ?_)
      clear hK K
      refine W.condT rfl ?_
      refine W.skip ?_
      refine thenN ?_
      refine W.seq ?_
      refine W.block ?_
      refine W.sD [1, 3, 45] [0, 0, 2, 0, 14, 30, 63, 127, 255, 511, 1023, 2047, 4095, 8191, 4095, 20479, 65535, 131071, 4095, 266239, 4095, 1839103, 3936255, 8388607, 16777215, 33554431, 67108863] (by kernel_rfl) (by kernel_rfl) fun K hK => ?_
      refine dL rfl rfl rfl (by omega) (accB_ok rfl) (e_loadA t30 rfl rfl (by repeat (first | exact look_same | assumption | refine look_ne (by omega) ?_ | refine look_keep (by assumption) (by omega) (by simp; try omega) ?_)) rfl rfl) ?_
      refine dP rfl rfl rfl (e_fieldAddr t30 t22 rfl rfl) ?_
      refine dL rfl rfl rfl (by omega) (accB_ok rfl) (e_load1 t22 rfl rfl (by repeat (first | exact look_same | assumption | refine look_ne (by omega) ?_ | refine look_keep (by assumption) (by omega) (by simp; try omega) ?_)) rfl) ?_
      refine dP rfl rfl rfl (e_move rfl) ?_
      refine dP rfl rfl rfl (e_idxSK _ t22 t25 rfl rfl rfl (by first | omega | decide)) ?_
      refine dL rfl rfl rfl (by omega) (accB_ok rfl) (e_loadP t25 rfl rfl (by repeat (first | exact look_same | assumption | refine look_ne (by omega) ?_ | refine look_keep (by assumption) (by omega) (by simp; try omega) ?_)) (flat_at (by omega))) ?_
      refine dC rfl rfl rfl rfl (spec_l2In_s _ _ _ _ _ _ _ (by omega)) (accB_ok rfl) ?_
      refine dP rfl rfl rfl (e_not rfl) ?_
      refine dP rfl rfl rfl (e_move rfl) ?_
      refine dB (fun hb3 => ?_) (fun hb3 => ?_)
      ·
        try simp only [decide_eq_true_eq, decide_eq_false_iff_not, Bool.not_eq_true', Bool.not_eq_false', Bool.not_eq_true, Bool.not_eq_false] at hb3
        refine dS rfl rfl ?_
        refine dS rfl rfl ?_
        refine dS rfl rfl ?_
        refine dS rfl rfl ?_
        refine dS rfl rfl ?_
        refine dS rfl rfl ?_
        refine dS rfl rfl ?_
        refine dS rfl rfl ?_
        refine dS rfl rfl ?_
        refine dS rfl rfl ?_
        refine dS rfl rfl ?_
        refine dS rfl rfl ?_
        refine dS rfl rfl ?_
        refine dS rfl rfl ?_
        refine dS rfl rfl ?_
        refine dS rfl rfl ?_
        refine dS rfl rfl ?_
        refine dP rfl rfl rfl (e_pickT rfl rfl) ?_
        refine dEnd (hK _ [(1, _), (3, _), (45, _)] _ _ rfl ?_)
        clear hK K
        refine W.condT rfl ?_
        refine W.sR [2] fun K hK => ?_
        refine st rfl rfl (e_assign rfl) ?_
        refine stEnd (hK _ [(2, _)] _ _ rfl ?_)
        clear hK K
        refine W.ret ?_
        refine blockR ?_
        refine thenR ?_
        refine thenR ?_
        refine blockR ?_
        refine thenR ?_
        refine ⟨.inr rfl, Ends.v0 (by repeat (first | exact self_old | assumption | refine set_old ?_ (by omega) | refine keep_old (by assumption) ?_ (by omega) (by simp; try omega))) hfresh (by first | rfl | (simp [ltT, ltA, ltC, ltV]; try omega)) (res1 (resT rfl) rfl) ?_⟩
        first | (rw [isHeap_no1 hv]) | (rw [isHeap_yes hv (fun j hj => hq j (by omega))]) | (rw [isHeap_no2 (i := i) (by omega) (by first | exact okAt_no1 (by assumption) | exact okAt_no2 (by omega) (by assumption) | exact okAt_no3 (by omega) (by assumption))])
      ·
        try simp only [decide_eq_true_eq, decide_eq_false_iff_not, Bool.not_eq_true', Bool.not_eq_false', Bool.not_eq_true, Bool.not_eq_false] at hb3
        refine dP rfl rfl rfl (e_move rfl) ?_
        refine dP rfl rfl rfl (e_gtr rfl rfl) ?_
        refine dP rfl rfl rfl (e_move rfl) ?_
        refine dB (fun hb4 => ?_) (fun hb4 => ?_)
        ·
          try simp only [decide_eq_true_eq, decide_eq_false_iff_not, Bool.not_eq_true', Bool.not_eq_false', Bool.not_eq_true, Bool.not_eq_false] at hb4
          refine dP rfl rfl rfl (e_fieldAddr t30 t22 rfl rfl) ?_
          refine dL rfl rfl rfl (by omega) (accB_ok rfl) (e_load1 t22 rfl rfl (by repeat (first | exact look_same | assumption | refine look_ne (by omega) ?_ | refine look_keep (by assumption) (by omega) (by simp; try omega) ?_)) rfl) ?_
          refine dP rfl rfl rfl (e_move rfl) ?_
          refine dP rfl rfl rfl (e_sub rfl rfl (inB _ (by omega))) ?_
          refine dP rfl rfl rfl (e_idxSK (i - 1) t22 t25 rfl rfl (by first | rfl | omega) (by first | omega | decide)) ?_
          refine dL rfl rfl rfl (by omega) (accB_ok rfl) (e_loadP t25 rfl rfl (by repeat (first | exact look_same | assumption | refine look_ne (by omega) ?_ | refine look_keep (by assumption) (by omega) (by simp; try omega) ?_)) (flat_at (by omega))) ?_
          refine dP rfl rfl rfl (e_fieldAddr t30 t22 rfl rfl) ?_
          refine dL rfl rfl rfl (by omega) (accB_ok rfl) (e_load1 t22 rfl rfl (by repeat (first | exact look_same | assumption | refine look_ne (by omega) ?_ | refine look_keep (by assumption) (by omega) (by simp; try omega) ?_)) rfl) ?_
          refine dP rfl rfl rfl (e_move rfl) ?_
          refine dP rfl rfl rfl (e_idxSK _ t22 t25 rfl rfl rfl (by first | omega | decide)) ?_
          refine dL rfl rfl rfl (by omega) (accB_ok rfl) (e_loadP t25 rfl rfl (by repeat (first | exact look_same | assumption | refine look_ne (by omega) ?_ | refine look_keep (by assumption) (by omega) (by simp; try omega) ?_)) (flat_at (by omega))) ?_
          refine dC rfl rfl rfl rfl (spec_l2Before_s _ _ _ _ ) (accB_ok rfl) ?_
          refine dP rfl rfl rfl (e_not rfl) ?_
          refine dP rfl rfl rfl (e_pickT rfl rfl) ?_
          refine dP rfl rfl rfl (e_pickF rfl rfl) ?_
          refine dB (fun hb5 => ?_) (fun hb5 => ?_)
          ·
            try simp only [decide_eq_true_eq, decide_eq_false_iff_not, Bool.not_eq_true', Bool.not_eq_false', Bool.not_eq_true, Bool.not_eq_false] at hb5
            refine dEnd (hK _ [(1, _), (3, _), (45, _)] _ _ rfl ?_)
            clear hK K
            refine W.condT rfl ?_
            refine W.sR [2] fun K hK => ?_
            refine st rfl rfl (e_assign rfl) ?_
            refine stEnd (hK _ [(2, _)] _ _ rfl ?_)
            clear hK K
            refine W.ret ?_
            refine blockR ?_
            refine thenR ?_
            refine thenR ?_
            refine blockR ?_
            refine thenR ?_
            refine ⟨.inr rfl, Ends.v0 (by repeat (first | exact self_old | assumption | refine set_old ?_ (by omega) | refine keep_old (by assumption) ?_ (by omega) (by simp; try omega))) hfresh (by first | rfl | (simp [ltT, ltA, ltC, ltV]; try omega)) (res1 (resT rfl) rfl) ?_⟩
            first | (rw [isHeap_no1 hv]) | (rw [isHeap_yes hv (fun j hj => hq j (by omega))]) | (rw [isHeap_no2 (i := i) (by omega) (by first | exact okAt_no1 (by assumption) | exact okAt_no2 (by omega) (by assumption) | exact okAt_no3 (by omega) (by assumption))])
          ·
            try simp only [decide_eq_true_eq, decide_eq_false_iff_not, Bool.not_eq_true', Bool.not_eq_false', Bool.not_eq_true, Bool.not_eq_false] at hb5
            refine dEnd (hK _ [(1, _), (3, _), (45, _)] _ _ rfl ?_)
            clear hK K
            refine W.condF rfl ?_
            refine W.skip ?_
            refine blockN ?_
            refine thenN ?_
            refine W.rR [3, 1] fun K hK => ?_
            refine st rfl rfl (e_move rfl) ?_
            refine st rfl rfl (e_add rfl rfl (inB _ (by omega))) ?_
            refine st rfl rfl (e_assign rfl) ?_
            refine stEnd (hK _ [(3, _), (1, _)] _ _ rfl ?_)
            clear hK K
            exact roundN (V' := [(3, _)]) [3, 1] rfl (by omega) (by repeat (first | exact Keeps.refl _ _ _ | assumption | refine Keeps.trans ?_ (by assumption) (by omega) (by simp; try omega) | refine Keeps.set ?_ (by first | exact Or.inl (by omega) | (simp; done) | (simp; omega)) | refine Keeps.del ?_ (by first | exact Or.inl (by omega) | (simp; done) | (simp; omega)) | refine Keeps.delO2 ?_ (by omega))) _ (by omega) ⟨i + 1, rfl, rfl, (by first | omega | assumption | simp_all), (all_succ hq (by first | exact okAt_yes1 (by assumption) (by omega) | exact okAt_yes2 (by assumption) (by assumption) | exact okAt_yes3 (by assumption) (by assumption)))⟩
        ·
          try simp only [decide_eq_true_eq, decide_eq_false_iff_not, Bool.not_eq_true', Bool.not_eq_false', Bool.not_eq_true, Bool.not_eq_false] at hb4
          refine dS rfl rfl ?_
          refine dS rfl rfl ?_
          refine dS rfl rfl ?_
          refine dS rfl rfl ?_
          refine dS rfl rfl ?_
          refine dS rfl rfl ?_
          refine dS rfl rfl ?_
          refine dS rfl rfl ?_
          refine dS rfl rfl ?_
          refine dS rfl rfl ?_
          refine dS rfl rfl ?_
          refine dS rfl rfl ?_
          refine dS rfl rfl ?_
          refine dP rfl rfl rfl (e_pickF rfl rfl) ?_
          refine dP rfl rfl rfl (e_pickF rfl rfl) ?_
          refine dEnd (hK _ [(1, _), (3, _), (45, _)] _ _ rfl ?_)
          clear hK K
          refine W.condF rfl ?_
          refine W.skip ?_
          refine blockN ?_
          refine thenN ?_
          refine W.rR [3, 1] fun K hK => ?_
          refine st rfl rfl (e_move rfl) ?_
          refine st rfl rfl (e_add rfl rfl (inB _ (by omega))) ?_
          refine st rfl rfl (e_assign rfl) ?_
          refine stEnd (hK _ [(3, _), (1, _)] _ _ rfl ?_)
          clear hK K
          exact roundN (V' := [(3, _)]) [3, 1] rfl (by omega) (by repeat (first | exact Keeps.refl _ _ _ | assumption | refine Keeps.trans ?_ (by assumption) (by omega) (by simp; try omega) | refine Keeps.set ?_ (by first | exact Or.inl (by omega) | (simp; done) | (simp; omega)) | refine Keeps.del ?_ (by first | exact Or.inl (by omega) | (simp; done) | (simp; omega)) | refine Keeps.delO2 ?_ (by omega))) _ (by omega) ⟨i + 1, rfl, rfl, (by first | omega | assumption | simp_all), (all_succ hq (by first | exact okAt_yes1 (by assumption) (by omega) | exact okAt_yes2 (by assumption) (by assumption) | exact okAt_yes3 (by assumption) (by assumption)))⟩
    ·
      try simp only [decide_eq_true_eq, decide_eq_false_iff_not, Bool.not_eq_true', Bool.not_eq_false', Bool.not_eq_true, Bool.not_eq_false] at hb2
      refine stEnd (hK _ [(1, _), (3, _), (16, _)] _ _ rfl ?_)
      clear hK K
      refine W.condF rfl ?_
      refine W.exit ?_
      refine thenE ?_
      refine thenE ?_
      refine blockX ?_
      refine thenN ?_
      refine W.sR [2] fun K hK => ?_
      refine st rfl rfl (e_assign rfl) ?_
      refine stEnd (hK _ [(2, _)] _ _ rfl ?_)
      clear hK K
      refine W.ret ?_
      refine ⟨.inr rfl, Ends.v0 (by repeat (first | exact self_old | assumption | refine set_old ?_ (by omega) | refine keep_old (by assumption) ?_ (by omega) (by simp; try omega))) hfresh (by first | rfl | (simp [ltT, ltA, ltC, ltV]; try omega)) (res1 (resT rfl) rfl) ?_⟩
      first | (rw [isHeap_no1 hv]) | (rw [isHeap_yes hv (fun j hj => hq j (by omega))]) | (rw [isHeap_no2 (i := i) (by omega) (by first | exact okAt_no1 (by assumption) | exact okAt_no2 (by omega) (by assumption) | exact okAt_no3 (by omega) (by assumption))])
theorem spec_l8Number_s (a : Int) (H : Heap) (n : Nat) : Fn Try.prog 91 [.int .i64 a] H n (.bool (within a 0 23)) (H) (n) := by
  refine Fn.intro' Try.func91 rfl (by kernel_rfl) Try.ntmps91 (by simp) (by omega) fun hfresh => ?_
  show W _ _ _ ⟨[(0, _)], _, _⟩ _
  refine W.sR [0] fun K hK => ?_
  refine st rfl rfl (e_assign rfl) ?_
  refine stEnd (hK _ [(0, _)] _ _ rfl ?_)
  clear hK K
  refine W.sR [2] fun K hK => ?_
  refine st rfl rfl (e_move rfl) ?_
  refine stC rfl rfl rfl (spec_l1In_s _ _ _ _ _ ) ?_
  refine st rfl rfl (e_assign rfl) ?_
  refine stEnd (hK _ [(2, _)] _ _ rfl ?_)
  clear hK K
  refine W.ret ?_
  refine ⟨.inr rfl, Ends.v0 (by repeat (first | exact self_old | assumption | refine set_old ?_ (by omega))) hfresh (by first | rfl | (simp [ltT, ltA, ltC, ltV]; try omega)) (res1 (resT rfl) rfl) ?_⟩
  rfl
theorem spec_l8Odd_s (i : Nat) (H : Heap) (n : Nat) (hi : i < 6) : Fn Try.prog 135 [.agg #[.int .i64 (at3 Go.Sep.ORD i).1, .int .i64 (at3 Go.Sep.ORD i).2.1, .int .i64 (at3 Go.Sep.ORD i).2.2]] H n (.int .i64 ((invN (at3 Go.Sep.ORD i)).tmod 2)) (H) (n) := by
  refine Fn.intro' Try.func135 rfl (by kernel_rfl) Try.ntmps135 (by simp) (by omega) fun hfresh => ?_
  show W _ _ _ ⟨[(0, _)], _, _⟩ _
  refine W.sR [1] fun K hK => ?_
  refine st rfl rfl (e_boxA rfl) ?_
  refine st rfl rfl (e_assign rfl) ?_
  refine stEnd (hK _ [(1, _)] _ _ rfl ?_)
  clear hK K
  refine W.sR [1, 3] fun K hK => ?_
  refine st rfl rfl (e_assign rfl) ?_
  refine stEnd (hK _ [(1, _), (3, _)] _ _ rfl ?_)
  clear hK K
  refine W.seq ?_
  refine W.sR [1, 3, 4] fun K hK => ?_
  refine st rfl rfl (e_assign rfl) ?_
  refine stEnd (hK _ [(1, _), (3, _), (4, _)] _ _ rfl ?_)
  clear hK K
  refine W.block ?_
  refine W.ord [3, 4, 1] (ts' := [(3, _), (4, _)] ++ [(1, _)]) rfl ?_
  refine W.loopC [(3, _), (4, _)] [] (fun κ V G0 μ0 => ∃ k : Nat, V = [(3, .int .i64 (odN i k)), (4, .int .i64 (k : Nat))] ∧ κ = 3 - k ∧ (k ≤ 3)) _ ⟨0, rfl, rfl, (by first | omega | assumption | rfl | simp_all)⟩ fun κ V G0 μ0 hinv hμ0 hkeep0 hfr0 => ?_
  obtain ⟨k, rfl, rfl, hk⟩ := hinv
  refine W.seq ?_
  refine W.sR [1, 3, 4, 7] fun K hK => ?_
  refine st rfl rfl (e_move rfl) ?_
  refine st rfl rfl (e_lss rfl rfl) ?_
  refine stB (fun hb1 => ?_) (fun hb1 => ?_)
  ·
    try simp only [decide_eq_true_eq, decide_eq_false_iff_not, Bool.not_eq_true', Bool.not_eq_false', Bool.not_eq_true, Bool.not_eq_false] at hb1
    refine stEnd (hK _ [(1, _), (3, _), (4, _), (7, _)] _ _ rfl ?_)
    clear hK K
    refine W.condT rfl ?_
    refine W.skip ?_
    refine thenN ?_
    refine W.seq ?_
    refine W.block ?_
    refine W.sR [1, 3, 4, 5] fun K hK => ?_
    refine st rfl rfl (e_assign rfl) ?_
    refine stEnd (hK _ [(1, _), (3, _), (4, _), (5, _)] _ _ rfl ?_)
    clear hK K
    refine W.block ?_
    refine W.ord [3, 5, 1, 4] (ts' := [(3, _), (5, _)] ++ [(1, _), (4, _)]) rfl ?_
    refine W.loopC [(3, _), (5, _)] [] (fun κ V G1 μ1 => ∃ l : Nat, V = [(3, .int .i64 (odN i k + odS i k l)), (5, .int .i64 (l : Nat))] ∧ κ = k - l ∧ (l ≤ k)) _ ⟨0, (by simp [odS]), rfl, (by first | omega | assumption | rfl | simp_all)⟩ fun κ V G1 μ1 hinv hμ1 hkeep1 hfr1 => ?_
    obtain ⟨l, rfl, rfl, hl⟩ := hinv
    refine W.seq ?_
    refine W.sR [1, 3, 4, 5, 12] fun K hK => ?_
    refine st rfl rfl (e_move rfl) ?_
    refine st rfl rfl (e_move rfl) ?_
    refine st rfl rfl (e_lss rfl rfl) ?_
    refine stB (fun hb2 => ?_) (fun hb2 => ?_)
    ·
      try simp only [decide_eq_true_eq, decide_eq_false_iff_not, Bool.not_eq_true', Bool.not_eq_false', Bool.not_eq_true, Bool.not_eq_false] at hb2
      refine stEnd (hK _ [(1, _), (3, _), (4, _), (5, _), (12, _)] _ _ rfl ?_)
      clear hK K
      refine W.condT rfl ?_
      refine W.skip ?_
      refine thenN ?_
      refine W.seq ?_
      refine W.block ?_
      have hod := odS_bd i k l
      have hon := odN_bd i k
      refine W.sD [1, 3, 4, 5, 21] [0, 1, 3, 0, 8, 24, 63] (by kernel_rfl) (by kernel_rfl) fun K hK => ?_
      refine dP rfl rfl rfl (e_move rfl) ?_
      refine dP rfl rfl rfl (e_idxAK _ t25 t3 rfl rfl rfl (by first | omega | decide)) ?_
      refine dL rfl rfl rfl (by omega) (accB_ok rfl) (e_load1 t3 rfl rfl (by repeat (first | exact look_same | assumption | refine look_ne (by omega) ?_ | refine look_keep (by assumption) (by omega) (by simp; try omega) ?_)) (tri_get (by omega))) ?_
      refine dP rfl rfl rfl (e_move rfl) ?_
      refine dP rfl rfl rfl (e_idxAK _ t25 t3 rfl rfl rfl (by first | omega | decide)) ?_
      refine dL rfl rfl rfl (by omega) (accB_ok rfl) (e_load1 t3 rfl rfl (by repeat (first | exact look_same | assumption | refine look_ne (by omega) ?_ | refine look_keep (by assumption) (by omega) (by simp; try omega) ?_)) (tri_get (by omega))) ?_
      refine dP rfl rfl rfl (e_gtr rfl rfl) ?_
      refine dB (fun h9v => ?_) (fun h9v => ?_)
      ·
        try simp only [decide_eq_true_eq, decide_eq_false_iff_not, Bool.not_eq_true', Bool.not_eq_false', Bool.not_eq_true, Bool.not_eq_false] at h9v
        refine dEnd (hK _ [(1, _), (3, _), (4, _), (5, _), (21, _)] _ _ rfl ?_)
        clear hK K
        refine W.condT rfl ?_
        refine W.rR [1, 3, 4, 5] fun K hK => ?_
        refine st rfl rfl (e_move rfl) ?_
        refine st rfl rfl (e_add rfl rfl (inB _ (by omega))) ?_
        refine st rfl rfl (e_assign rfl) ?_
        refine stEnd (hK _ [(1, _), (3, _), (4, _), (5, _)] _ _ rfl ?_)
        clear hK K
        refine blockN ?_
        refine thenN ?_
        refine W.rR [3, 5, 1, 4] fun K hK => ?_
        refine st rfl rfl (e_move rfl) ?_
        refine st rfl rfl (e_add rfl rfl (inB _ (by omega))) ?_
        refine st rfl rfl (e_assign rfl) ?_
        refine stEnd (hK _ [(3, _), (5, _), (1, _), (4, _)] _ _ rfl ?_)
        clear hK K
        exact roundN (V' := [(3, _), (5, _)]) [3, 5, 1, 4] rfl (by omega) (by repeat (first | exact Keeps.refl _ _ _ | assumption | refine Keeps.trans ?_ (by assumption) (by omega) (by simp; try omega) | refine Keeps.set ?_ (by first | exact Or.inl (by omega) | (simp; done) | (simp; omega)) | refine Keeps.del ?_ (by first | exact Or.inl (by omega) | (simp; done) | (simp; omega)) | refine Keeps.delO2 ?_ (by omega))) _ (by omega) ⟨l + 1, (by rw [← odS_T h9v, Int.add_assoc]; rfl), rfl, (by first | omega | assumption | simp_all)⟩
      ·
        try simp only [decide_eq_true_eq, decide_eq_false_iff_not, Bool.not_eq_true', Bool.not_eq_false', Bool.not_eq_true, Bool.not_eq_false] at h9v
        refine dEnd (hK _ [(1, _), (3, _), (4, _), (5, _), (21, _)] _ _ rfl ?_)
        clear hK K
        refine W.condF rfl ?_
        refine W.skip ?_
        refine blockN ?_
        refine thenN ?_
        refine W.rR [3, 5, 1, 4] fun K hK => ?_
        refine st rfl rfl (e_move rfl) ?_
        refine st rfl rfl (e_add rfl rfl (inB _ (by omega))) ?_
        refine st rfl rfl (e_assign rfl) ?_
        refine stEnd (hK _ [(3, _), (5, _), (1, _), (4, _)] _ _ rfl ?_)
        clear hK K
        exact roundN (V' := [(3, _), (5, _)]) [3, 5, 1, 4] rfl (by omega) (by repeat (first | exact Keeps.refl _ _ _ | assumption | refine Keeps.trans ?_ (by assumption) (by omega) (by simp; try omega) | refine Keeps.set ?_ (by first | exact Or.inl (by omega) | (simp; done) | (simp; omega)) | refine Keeps.del ?_ (by first | exact Or.inl (by omega) | (simp; done) | (simp; omega)) | refine Keeps.delO2 ?_ (by omega))) _ (by omega) ⟨l + 1, (by rw [← odS_F h9v]; rfl), rfl, (by first | omega | assumption | simp_all)⟩
    ·
      try simp only [decide_eq_true_eq, decide_eq_false_iff_not, Bool.not_eq_true', Bool.not_eq_false', Bool.not_eq_true, Bool.not_eq_false] at hb2
      refine stEnd (hK _ [(1, _), (3, _), (4, _), (5, _), (12, _)] _ _ rfl ?_)
      clear hK K
      refine W.condF rfl ?_
      refine W.exit ?_
      refine thenE ?_
      refine thenE ?_
      refine blockX ?_
      refine blockN ?_
      refine thenN ?_
      refine W.rR [3, 4, 1] fun K hK => ?_
      refine st rfl rfl (e_move rfl) ?_
      refine st rfl rfl (e_add rfl rfl (inB _ (by omega))) ?_
      refine st rfl rfl (e_assign rfl) ?_
      refine stEnd (hK _ [(3, _), (4, _), (1, _)] _ _ rfl ?_)
      clear hK K
      exact roundN (V' := [(3, _), (4, _)]) [3, 4, 1] rfl (by omega) (by repeat (first | exact Keeps.refl _ _ _ | assumption | refine Keeps.trans ?_ (by assumption) (by omega) (by simp; try omega) | refine Keeps.set ?_ (by first | exact Or.inl (by omega) | (simp; done) | (simp; omega)) | refine Keeps.del ?_ (by first | exact Or.inl (by omega) | (simp; done) | (simp; omega)) | refine Keeps.delO2 ?_ (by omega))) _ (by omega) ⟨k + 1, (by rw [show l = k by omega]; rfl), rfl, (by first | omega | assumption | simp_all)⟩
  ·
    try simp only [decide_eq_true_eq, decide_eq_false_iff_not, Bool.not_eq_true', Bool.not_eq_false', Bool.not_eq_true, Bool.not_eq_false] at hb1
    refine stEnd (hK _ [(1, _), (3, _), (4, _), (7, _)] _ _ rfl ?_)
    clear hK K
    refine W.condF rfl ?_
    refine W.exit ?_
    refine thenE ?_
    refine thenE ?_
    refine blockX ?_
    refine thenN ?_
    obtain rfl : k = 3 := (by omega)
    rw [odN_all hi]
    refine W.sR [2] fun K hK => ?_
    refine st rfl rfl (e_move rfl) ?_
    refine st rfl rfl (e_rem rfl rfl (by omega)) ?_
    refine st rfl rfl (e_assign rfl) ?_
    refine stEnd (hK _ [(2, _)] _ _ rfl ?_)
    clear hK K
    refine W.ret ?_
    refine ⟨.inr rfl, Ends.v0 (by repeat (first | exact self_old | assumption | refine set_old ?_ (by omega) | refine keep_old (by assumption) ?_ (by omega) (by simp; try omega))) hfresh (by first | rfl | (simp [ltT, ltA, ltC, ltV]; try omega)) (res1 (resT rfl) rfl) ?_⟩
    rfl
theorem bsl99_0 {H : Heap} {n : Nat} : cBuildSlice Try.prog 99 0 H n [] = some (.slice (some ⟨n, 0, none⟩) 0 6, H.set n (.cells false []), n + 1) := by
  simp [cBuildSlice, t99, t98, fillC, zeros, konst0, putC, Value.cells]
theorem bld25_0_1_2 (v0 : Value) (v1 : Value) (v2 : Value) (h0 : oneV v0 = true) (h1 : oneV v1 = true) (h2 : oneV v2 = true) : cBuild Try.prog 25 [(0, v0), (1, v1), (2, v2)] = some (.agg #[v0, v1, v2]) := by
  simp [cBuild, t25, t3, fieldsOk, placesC, fillC, konst0, putC, (oneV_cells h0).1, (oneV_cells h1).1, (oneV_cells h2).1]
theorem bld98_0_1 {v0_0 v0_1 v0_2 : Value} {v1_0 v1_1 v1_2 : Value} : cBuild Try.prog 98 [(0, .agg #[v0_0, v0_1, v0_2]), (1, .agg #[v1_0, v1_1, v1_2])] = some (.agg #[v0_0, v0_1, v0_2, v1_0, v1_1, v1_2]) := by
  simp [cBuild, t98, t25, fieldsOk, placesC, fillC, konst0, putC, Value.cells]
theorem bsl99_1 {H : Heap} {n : Nat} {v0_0 : Value} {v0_1 : Value} {v0_2 : Value} {v0_3 : Value} {v0_4 : Value} {v0_5 : Value} : cBuildSlice Try.prog 99 1 H n [(0, .agg #[v0_0, v0_1, v0_2, v0_3, v0_4, v0_5])] = some (.slice (some ⟨n, 0, none⟩) 1 6, H.set n (.cells false [v0_0, v0_1, v0_2, v0_3, v0_4, v0_5]), n + 1) := by
  simp [cBuildSlice, t99, t98, fillC, zeros, konst0, putC, Value.cells]
theorem spec_l8Turns_s  (H : Heap) (n : Nat) : Fn Try.prog 93 [] H n (.slice (some ⟨n, 0, none⟩) TRN.length 6) (H.set n (.cells false (flat6 TRN))) (n + 1) := by
  refine Fn.intro' Try.func93 rfl (by kernel_rfl) Try.ntmps93 (by simp) (by omega) fun hfresh => ?_
  show W _ _ _ ⟨[], _, _⟩ _
  refine W.sR [] fun K hK => ?_
  refine st rfl rfl (e_assign rfl) ?_
  refine stEnd (hK _ [] _ _ rfl ?_)
  clear hK K
  refine W.sR [1] fun K hK => ?_
  refine st rfl rfl (e_buildSlice rfl rfl (bsl99_0)) ?_
  refine st rfl rfl (e_assign rfl) ?_
  refine stEnd (hK _ [(1, _)] _ _ rfl ?_)
  clear hK K
  refine W.seq ?_
  refine W.sR [1, 2] fun K hK => ?_
  refine st rfl rfl (e_assign rfl) ?_
  refine stEnd (hK _ [(1, _), (2, _)] _ _ rfl ?_)
  clear hK K
  refine W.block ?_
  refine W.ord [1, 2] (ts' := [(1, _), (2, _)] ++ []) rfl ?_
  refine W.loopC [(1, _), (2, _)] [n] (fun κ V G0 μ0 => ∃ a r : Nat, V = [(1, .slice (some ⟨r, 0, none⟩) (trnA (pIx a 0) 0).length 6), (2, .int .i64 (a : Nat))] ∧ κ = 3 - a ∧ (a ≤ 3) ∧ ((r = n ∨ n + 1 ≤ r) ∧ r < μ0) ∧ (G0 r = some (.cells false (flat6 (trnA (pIx a 0) 0))))) _ ⟨0, n, rfl, rfl, (by first | omega | assumption | rfl | simp_all), (by omega), (by repeat (first | exact look_same | assumption | refine look_ne (by omega) ?_ | refine look_keep (by assumption) (by omega) (by simp; try omega) ?_))⟩ fun κ V G0 μ0 hinv hμ0 hkeep0 hfr0 => ?_
  obtain ⟨a, r, rfl, rfl, ha, hr, hG⟩ := hinv
  refine W.seq ?_
  refine W.sR [1, 2, 8] fun K hK => ?_
  refine st rfl rfl (e_move rfl) ?_
  refine st rfl rfl (e_lss rfl rfl) ?_
  refine stB (fun hb1 => ?_) (fun hb1 => ?_)
  ·
    try simp only [decide_eq_true_eq, decide_eq_false_iff_not, Bool.not_eq_true', Bool.not_eq_false', Bool.not_eq_true, Bool.not_eq_false] at hb1
    refine stEnd (hK _ [(1, _), (2, _), (8, _)] _ _ rfl ?_)
    clear hK K
    refine W.condT rfl ?_
    refine W.skip ?_
    refine thenN ?_
    refine W.seq ?_
    refine W.block ?_
    refine W.sR [1, 2, 3] fun K hK => ?_
    refine st rfl rfl (e_assign rfl) ?_
    refine stEnd (hK _ [(1, _), (2, _), (3, _)] _ _ rfl ?_)
    clear hK K
    refine W.block ?_
    refine W.ord [1, 3, 2] (ts' := [(1, _), (3, _)] ++ [(2, _)]) rfl ?_
    refine W.loopC [(1, _), (3, _)] [r] (fun κ V G1 μ1 => ∃ b r1 : Nat, V = [(1, .slice (some ⟨r1, 0, none⟩) (trnA (pIx a b) 0).length 6), (3, .int .i64 (b : Nat))] ∧ κ = 3 - b ∧ (b ≤ 3) ∧ ((r1 = r ∨ μ0 ≤ r1) ∧ r1 < μ1) ∧ (G1 r1 = some (.cells false (flat6 (trnA (pIx a b) 0))))) _ ⟨0, r, rfl, rfl, (by first | omega | assumption | rfl | simp_all), (by omega), hG⟩ fun κ V G1 μ1 hinv hμ1 hkeep1 hfr1 => ?_
    obtain ⟨b, r1, rfl, rfl, hb, hr1, hG1⟩ := hinv
    refine W.seq ?_
    refine W.sR [1, 2, 3, 12] fun K hK => ?_
    refine st rfl rfl (e_move rfl) ?_
    refine st rfl rfl (e_lss rfl rfl) ?_
    refine stB (fun hb2 => ?_) (fun hb2 => ?_)
    ·
      try simp only [decide_eq_true_eq, decide_eq_false_iff_not, Bool.not_eq_true', Bool.not_eq_false', Bool.not_eq_true, Bool.not_eq_false] at hb2
      refine stEnd (hK _ [(1, _), (2, _), (3, _), (12, _)] _ _ rfl ?_)
      clear hK K
      refine W.condT rfl ?_
      refine W.skip ?_
      refine thenN ?_
      refine W.seq ?_
      refine W.block ?_
      refine W.sR [1, 2, 3, 4] fun K hK => ?_
      refine st rfl rfl (e_assign rfl) ?_
      refine stEnd (hK _ [(1, _), (2, _), (3, _), (4, _)] _ _ rfl ?_)
      clear hK K
      refine W.block ?_
      refine W.ord [1, 4, 2, 3] (ts' := [(1, _), (4, _)] ++ [(2, _), (3, _)]) rfl ?_
      refine W.loopC [(1, _), (4, _)] [r1] (fun κ V G2 μ2 => ∃ s r2 : Nat, V = [(1, .slice (some ⟨r2, 0, none⟩) (trnA (pIx a b) s).length 6), (4, .int .i64 (s : Nat))] ∧ κ = 8 - s ∧ (s ≤ 8) ∧ (a = b → s = 0) ∧ ((r2 = r1 ∨ μ1 ≤ r2) ∧ r2 < μ2) ∧ (G2 r2 = some (.cells false (flat6 (trnA (pIx a b) s))))) _ ⟨0, r1, rfl, rfl, (by first | omega | assumption | rfl | simp_all), (fun _ => rfl), (by omega), hG1⟩ fun κ V G2 μ2 hinv hμ2 hkeep2 hfr2 => ?_
      obtain ⟨s, r2, rfl, rfl, hs, hab, hr2, hG2⟩ := hinv
      refine W.seq ?_
      refine W.sR [1, 2, 3, 4, 21] fun K hK => ?_
      refine st rfl rfl (e_move rfl) ?_
      refine st rfl rfl (e_lss rfl rfl) ?_
      refine st rfl rfl (e_move rfl) ?_
      refine stB (fun h8 => ?_) (fun h8 => ?_)
      ·
        try simp only [decide_eq_true_eq, decide_eq_false_iff_not, Bool.not_eq_true', Bool.not_eq_false', Bool.not_eq_true, Bool.not_eq_false] at h8
        refine st rfl rfl (e_move rfl) ?_
        refine st rfl rfl (e_move rfl) ?_
        refine st rfl rfl (e_neq rfl rfl) ?_
        refine st rfl rfl (e_pickT rfl rfl) ?_
        refine stB (fun hne => ?_) (fun hne => ?_)
        ·
          try simp only [decide_eq_true_eq, decide_eq_false_iff_not, Bool.not_eq_true', Bool.not_eq_false', Bool.not_eq_true, Bool.not_eq_false] at hne
          refine stEnd (hK _ [(1, _), (2, _), (3, _), (4, _), (21, _)] _ _ rfl ?_)
          clear hK K
          refine W.condT rfl ?_
          refine W.skip ?_
          refine thenN ?_
          refine W.seq ?_
          refine W.block ?_
          have hab2 : a ≠ b := by omega
          have ho := ord_ix (a := a) (b := b) (by omega) (by omega) hab2
          have htl := trnA_len (show pIx a b ≤ 6 by have := pIx_lt (a := a) (b := b) (by omega) (by omega) hab2; omega) (show s ≤ 8 by omega)
          refine W.sR [1, 2, 3, 4, 5] fun K hK => ?_
          refine st rfl rfl (e_move rfl) ?_
          refine st rfl rfl (e_move rfl) ?_
          refine st rfl rfl (e_move rfl) ?_
          refine st rfl rfl (e_sub rfl rfl (inB _ (by omega))) ?_
          refine st rfl rfl (e_move rfl) ?_
          refine st rfl rfl (e_sub rfl rfl (inB _ (by omega))) ?_
          refine st rfl rfl (e_build rfl rfl (bld25_0_1_2 _ _ _ rfl rfl rfl)) ?_
          rw [show Value.agg #[.int .i64 (a : Int), .int .i64 (b : Int), .int .i64 (3 - (a : Int) - (b : Int))] = .agg #[.int .i64 (at3 Go.Sep.ORD (pIx a b)).1, .int .i64 (at3 Go.Sep.ORD (pIx a b)).2.1, .int .i64 (at3 Go.Sep.ORD (pIx a b)).2.2] from by rw [ho]]
          refine st rfl rfl (e_move rfl) ?_
          refine st rfl rfl (e_bin rfl rfl (shr_2 (by omega))) ?_
          refine st rfl rfl (e_bin rfl rfl (and_1 (by omega))) ?_
          rw [show s / 4 % 2 = s / 4 by omega]
          refine st rfl rfl (e_move rfl) ?_
          refine st rfl rfl (e_bin rfl rfl (shr_1 (by omega))) ?_
          refine st rfl rfl (e_bin rfl rfl (and_1 (by omega))) ?_
          refine st rfl rfl (e_move rfl) ?_
          refine st rfl rfl (e_bin rfl rfl (and_1 (by omega))) ?_
          refine st rfl rfl (e_build rfl rfl (bld25_0_1_2 _ _ _ rfl rfl rfl)) ?_
          refine st rfl rfl (e_build rfl rfl (bld98_0_1 )) ?_
          refine st rfl rfl (e_alloc t98 rfl) ?_
          refine stN rfl (e_storeA t98 rfl rfl (by repeat (first | exact look_same | assumption | refine look_ne (by omega) ?_ | refine look_del (by omega) ?_ | refine look_keep (by assumption) (by omega) (by simp; try omega) ?_)) rfl rfl rfl (by decide)) ?_
          refine stEnd (hK _ [(1, _), (2, _), (3, _), (4, _), (5, _)] _ _ rfl ?_)
          clear hK K
          refine W.sD [1, 2, 3, 4, 5, 56] [0, 1, 3, 0, 8, 24, 0, 64, 192, 504, 0, 1024, 3072, 8184, 16376, 32767] (by kernel_rfl) (by kernel_rfl) fun K hK => ?_
          refine dP rfl rfl rfl (e_fieldAddr t98 t25 rfl rfl) ?_
          refine dL rfl rfl rfl (by omega) (accB_ok rfl) (e_loadP t25 rfl rfl (by repeat (first | exact look_same | assumption | refine look_ne (by omega) ?_ | refine look_del (by omega) ?_ | refine look_keep (by assumption) (by omega) (by simp; try omega) ?_)) ⟨by simp, rfl⟩) ?_
          refine dC rfl rfl rfl rfl (spec_l8Odd_s (pIx a b) _ _ (pIx_lt (by omega) (by omega) hab2)) (accB_ok rfl) ?_
          refine dP rfl rfl rfl (e_fieldAddr t98 t25 rfl rfl) ?_
          refine dP rfl rfl rfl (e_idxAK (0) t25 t3 rfl rfl (by first | rfl | omega) (by first | omega | decide)) ?_
          refine dL rfl rfl rfl (by omega) (by repeat (first | exact trivial | refine And.intro (Or.inl rfl) ?_ | refine And.intro (Or.inr trivial) ?_ | refine And.intro (Or.inr (And.intro (Or.inl (by omega)) (by first | (simp; done) | (simp; omega)))) ?_ | refine And.intro (Or.inr (And.intro (Or.inr (by omega)) (by first | (simp; done) | (simp; omega)))) ?_ | refine And.intro (Or.inr (by simp [compat]; try omega)) ?_)) (e_load1 t3 rfl rfl (by repeat (first | exact look_same | assumption | refine look_ne (by omega) ?_ | refine look_del (by omega) ?_ | refine look_keep (by assumption) (by omega) (by simp; try omega) ?_)) (by first | rfl | exact ints_at (by omega) | exact tri_getL (by omega) | exact (flat_get (by omega) (by omega)).trans rfl | exact flat_getJ (by omega) (by omega))) ?_
          refine dP rfl rfl rfl (e_fieldAddr t98 t25 rfl rfl) ?_
          refine dP rfl rfl rfl (e_idxAK (1) t25 t3 rfl rfl (by first | rfl | omega) (by first | omega | decide)) ?_
          refine dL rfl rfl rfl (by omega) (by repeat (first | exact trivial | refine And.intro (Or.inl rfl) ?_ | refine And.intro (Or.inr trivial) ?_ | refine And.intro (Or.inr (And.intro (Or.inl (by omega)) (by first | (simp; done) | (simp; omega)))) ?_ | refine And.intro (Or.inr (And.intro (Or.inr (by omega)) (by first | (simp; done) | (simp; omega)))) ?_ | refine And.intro (Or.inr (by simp [compat]; try omega)) ?_)) (e_load1 t3 rfl rfl (by repeat (first | exact look_same | assumption | refine look_ne (by omega) ?_ | refine look_del (by omega) ?_ | refine look_keep (by assumption) (by omega) (by simp; try omega) ?_)) (by first | rfl | exact ints_at (by omega) | exact tri_getL (by omega) | exact (flat_get (by omega) (by omega)).trans rfl | exact flat_getJ (by omega) (by omega))) ?_
          refine dP rfl rfl rfl (e_add rfl rfl (inB _ (by omega))) ?_
          refine dP rfl rfl rfl (e_fieldAddr t98 t25 rfl rfl) ?_
          refine dP rfl rfl rfl (e_idxAK (2) t25 t3 rfl rfl (by first | rfl | omega) (by first | omega | decide)) ?_
          refine dL rfl rfl rfl (by omega) (by repeat (first | exact trivial | refine And.intro (Or.inl rfl) ?_ | refine And.intro (Or.inr trivial) ?_ | refine And.intro (Or.inr (And.intro (Or.inl (by omega)) (by first | (simp; done) | (simp; omega)))) ?_ | refine And.intro (Or.inr (And.intro (Or.inr (by omega)) (by first | (simp; done) | (simp; omega)))) ?_ | refine And.intro (Or.inr (by simp [compat]; try omega)) ?_)) (e_load1 t3 rfl rfl (by repeat (first | exact look_same | assumption | refine look_ne (by omega) ?_ | refine look_del (by omega) ?_ | refine look_keep (by assumption) (by omega) (by simp; try omega) ?_)) (by first | rfl | exact ints_at (by omega) | exact tri_getL (by omega) | exact (flat_get (by omega) (by omega)).trans rfl | exact flat_getJ (by omega) (by omega))) ?_
          refine dP rfl rfl rfl (e_add rfl rfl (inB _ (by omega))) ?_
          refine dP rfl rfl rfl (e_rem rfl rfl (by omega)) ?_
          refine dP rfl rfl rfl (e_eql rfl rfl) ?_
          refine dB (fun hs7 => ?_) (fun hs7 => ?_)
          ·
            try simp only [decide_eq_true_eq, decide_eq_false_iff_not, Bool.not_eq_true', Bool.not_eq_false', Bool.not_eq_true, Bool.not_eq_false] at hs7
            refine dEnd (hK _ [(1, _), (2, _), (3, _), (4, _), (5, _), (56, _)] _ _ rfl ?_)
            clear hK K
            refine W.condT rfl ?_
            refine W.rR [1, 2, 3, 4] fun K hK => ?_
            refine st rfl rfl (e_move rfl) ?_
            refine st rfl rfl (e_loadA t98 rfl rfl (by repeat (first | exact look_same | assumption | refine look_ne (by omega) ?_ | refine look_del (by omega) ?_ | refine look_keep (by assumption) (by omega) (by simp; try omega) ?_)) rfl rfl) ?_
            refine st rfl rfl (e_buildSlice rfl rfl (bsl99_1)) ?_
            refine st rfl rfl (e_append t99 t99 t98 rfl rfl (by repeat (first | exact look_same | assumption | refine look_ne (by omega) ?_ | refine look_del (by omega) ?_ | refine look_keep (by assumption) (by omega) (by simp; try omega) ?_)) (by repeat (first | exact look_same | assumption | refine look_ne (by omega) ?_ | refine look_del (by omega) ?_ | refine look_keep (by assumption) (by omega) (by simp; try omega) ?_)) (by decide) (flat6_length _) rfl (by omega)) ?_
            refine st rfl rfl (e_assign rfl) ?_
            refine stEnd (hK _ [(1, _), (2, _), (3, _), (4, _)] _ _ rfl ?_)
            clear hK K
            refine blockN ?_
            refine thenN ?_
            refine W.rR [1, 4, 2, 3] fun K hK => ?_
            refine st rfl rfl (e_move rfl) ?_
            refine st rfl rfl (e_add rfl rfl (inB _ (by omega))) ?_
            refine st rfl rfl (e_assign rfl) ?_
            refine stEnd (hK _ [(1, _), (4, _), (2, _), (3, _)] _ _ rfl ?_)
            clear hK K
            exact roundN (V' := [(1, _), (4, _)]) [1, 4, 2, 3] rfl (by omega) (by repeat (first | exact Keeps.refl _ _ _ | assumption | refine Keeps.trans ?_ (by assumption) (by omega) (by simp; try omega) | refine Keeps.set ?_ (by first | exact Or.inl (by omega) | (simp; done) | (simp; omega)) | refine Keeps.del ?_ (by first | exact Or.inl (by omega) | (simp; done) | (simp; omega)) | refine Keeps.delO2 ?_ (by omega))) _ (by omega) ⟨s + 1, μ2 + 1 + 1, (by rw [← trnA_T (show okT (pIx a b) s = true from (okT_eq (pIx_lt (by omega) (by omega) hab2) (show s < 8 by omega)).symm.trans (decide_eq_true hs7))]; simp), rfl, (by first | omega | assumption | simp_all), (fun e => absurd e hab2), (by omega), (look_same.trans (congrArg some (congrArg (Blk.cells false) (by rw [← trnA_T (show okT (pIx a b) s = true from (okT_eq (pIx_lt (by omega) (by omega) hab2) (show s < 8 by omega)).symm.trans (decide_eq_true hs7))]; exact flat6_snoc (trnA (pIx a b) s) ((at3 Go.Sep.ORD (pIx a b)), sgn8 s)))))⟩
          ·
            try simp only [decide_eq_true_eq, decide_eq_false_iff_not, Bool.not_eq_true', Bool.not_eq_false', Bool.not_eq_true, Bool.not_eq_false] at hs7
            refine dEnd (hK _ [(1, _), (2, _), (3, _), (4, _), (5, _), (56, _)] _ _ rfl ?_)
            clear hK K
            refine W.condF rfl ?_
            refine W.skip ?_
            refine blockN ?_
            refine thenN ?_
            refine W.rR [1, 4, 2, 3] fun K hK => ?_
            refine st rfl rfl (e_move rfl) ?_
            refine st rfl rfl (e_add rfl rfl (inB _ (by omega))) ?_
            refine st rfl rfl (e_assign rfl) ?_
            refine stEnd (hK _ [(1, _), (4, _), (2, _), (3, _)] _ _ rfl ?_)
            clear hK K
            exact roundN (V' := [(1, _), (4, _)]) [1, 4, 2, 3] rfl (by omega) (by repeat (first | exact Keeps.refl _ _ _ | assumption | refine Keeps.trans ?_ (by assumption) (by omega) (by simp; try omega) | refine Keeps.set ?_ (by first | exact Or.inl (by omega) | (simp; done) | (simp; omega)) | refine Keeps.del ?_ (by first | exact Or.inl (by omega) | (simp; done) | (simp; omega)) | refine Keeps.delO2 ?_ (by omega))) _ (by omega) ⟨s + 1, r2, (by rw [← trnA_F (show okT (pIx a b) s = false from (okT_eq (pIx_lt (by omega) (by omega) hab2) (show s < 8 by omega)).symm.trans (decide_eq_false hs7))]; rfl), rfl, (by first | omega | assumption | simp_all), (fun e => absurd e hab2), (by omega), (by rw [← trnA_F (show okT (pIx a b) s = false from (okT_eq (pIx_lt (by omega) (by omega) hab2) (show s < 8 by omega)).symm.trans (decide_eq_false hs7))]; exact (by repeat (first | exact look_same | assumption | refine look_ne (by omega) ?_ | refine look_keep (by assumption) (by omega) (by simp; try omega) ?_)))⟩
        ·
          try simp only [decide_eq_true_eq, decide_eq_false_iff_not, Bool.not_eq_true', Bool.not_eq_false', Bool.not_eq_true, Bool.not_eq_false] at hne
          refine stEnd (hK _ [(1, _), (2, _), (3, _), (4, _), (21, _)] _ _ rfl ?_)
          clear hK K
          refine W.condF rfl ?_
          refine W.exit ?_
          refine thenE ?_
          refine thenE ?_
          refine blockX ?_
          refine blockN ?_
          refine thenN ?_
          have hfin : trnA (pIx a b) s = trnA (pIx a (b + 1)) 0 := by first | (rw [show s = 8 by omega, trnA_8, pIx_next (by intro e; have := hab e; omega)]) | (rw [show b = a by omega, pIx_same, hab (by omega)])
          refine W.rR [1, 3, 2] fun K hK => ?_
          refine st rfl rfl (e_move rfl) ?_
          refine st rfl rfl (e_add rfl rfl (inB _ (by omega))) ?_
          refine st rfl rfl (e_assign rfl) ?_
          refine stEnd (hK _ [(1, _), (3, _), (2, _)] _ _ rfl ?_)
          clear hK K
          exact roundN (V' := [(1, _), (3, _)]) [1, 3, 2] rfl (by omega) (by repeat (first | exact Keeps.refl _ _ _ | assumption | refine Keeps.trans ?_ (by assumption) (by omega) (by simp; try omega) | refine Keeps.set ?_ (by first | exact Or.inl (by omega) | (simp; done) | (simp; omega)) | refine Keeps.del ?_ (by first | exact Or.inl (by omega) | (simp; done) | (simp; omega)) | refine Keeps.delO2 ?_ (by omega))) _ (by omega) ⟨b + 1, r2, (by rw [← hfin]; rfl), rfl, (by first | omega | assumption | simp_all), (by omega), (by rw [← hfin]; exact hG2)⟩
      ·
        try simp only [decide_eq_true_eq, decide_eq_false_iff_not, Bool.not_eq_true', Bool.not_eq_false', Bool.not_eq_true, Bool.not_eq_false] at h8
        refine stS rfl rfl ?_
        refine stS rfl rfl ?_
        refine stS rfl rfl ?_
        refine st rfl rfl (e_pickF rfl rfl) ?_
        refine stEnd (hK _ [(1, _), (2, _), (3, _), (4, _), (21, _)] _ _ rfl ?_)
        clear hK K
        refine W.condF rfl ?_
        refine W.exit ?_
        refine thenE ?_
        refine thenE ?_
        refine blockX ?_
        refine blockN ?_
        refine thenN ?_
        have hfin : trnA (pIx a b) s = trnA (pIx a (b + 1)) 0 := by first | (rw [show s = 8 by omega, trnA_8, pIx_next (by intro e; have := hab e; omega)]) | (rw [show b = a by omega, pIx_same, hab (by omega)])
        refine W.rR [1, 3, 2] fun K hK => ?_
        refine st rfl rfl (e_move rfl) ?_
        refine st rfl rfl (e_add rfl rfl (inB _ (by omega))) ?_
        refine st rfl rfl (e_assign rfl) ?_
        refine stEnd (hK _ [(1, _), (3, _), (2, _)] _ _ rfl ?_)
        clear hK K
        exact roundN (V' := [(1, _), (3, _)]) [1, 3, 2] rfl (by omega) (by repeat (first | exact Keeps.refl _ _ _ | assumption | refine Keeps.trans ?_ (by assumption) (by omega) (by simp; try omega) | refine Keeps.set ?_ (by first | exact Or.inl (by omega) | (simp; done) | (simp; omega)) | refine Keeps.del ?_ (by first | exact Or.inl (by omega) | (simp; done) | (simp; omega)) | refine Keeps.delO2 ?_ (by omega))) _ (by omega) ⟨b + 1, r2, (by rw [← hfin]; rfl), rfl, (by first | omega | assumption | simp_all), (by omega), (by rw [← hfin]; exact hG2)⟩
    ·
      try simp only [decide_eq_true_eq, decide_eq_false_iff_not, Bool.not_eq_true', Bool.not_eq_false', Bool.not_eq_true, Bool.not_eq_false] at hb2
      refine stEnd (hK _ [(1, _), (2, _), (3, _), (12, _)] _ _ rfl ?_)
      clear hK K
      refine W.condF rfl ?_
      refine W.exit ?_
      refine thenE ?_
      refine thenE ?_
      refine blockX ?_
      refine blockN ?_
      refine thenN ?_
      obtain rfl : b = 3 := (by omega)
      refine W.rR [1, 2] fun K hK => ?_
      refine st rfl rfl (e_move rfl) ?_
      refine st rfl rfl (e_add rfl rfl (inB _ (by omega))) ?_
      refine st rfl rfl (e_assign rfl) ?_
      refine stEnd (hK _ [(1, _), (2, _)] _ _ rfl ?_)
      clear hK K
      exact roundN (V' := [(1, _), (2, _)]) [1, 2] rfl (by omega) (by repeat (first | exact Keeps.refl _ _ _ | assumption | refine Keeps.trans ?_ (by assumption) (by omega) (by simp; try omega) | refine Keeps.set ?_ (by first | exact Or.inl (by omega) | (simp; done) | (simp; omega)) | refine Keeps.del ?_ (by first | exact Or.inl (by omega) | (simp; done) | (simp; omega)) | refine Keeps.delO2 ?_ (by omega))) _ (by omega) ⟨a + 1, r1, (by rw [← pIx_end (by omega)]; rfl), rfl, (by first | omega | assumption | simp_all), (by omega), (by rw [← pIx_end (by omega)]; exact hG1)⟩
  ·
    try simp only [decide_eq_true_eq, decide_eq_false_iff_not, Bool.not_eq_true', Bool.not_eq_false', Bool.not_eq_true, Bool.not_eq_false] at hb1
    refine stEnd (hK _ [(1, _), (2, _), (8, _)] _ _ rfl ?_)
    clear hK K
    refine W.condF rfl ?_
    refine W.exit ?_
    refine thenE ?_
    refine thenE ?_
    refine blockX ?_
    refine thenN ?_
    obtain rfl : a = 3 := (by omega)
    refine W.sR [0] fun K hK => ?_
    refine st rfl rfl (e_move rfl) ?_
    refine st rfl rfl (e_assign rfl) ?_
    refine stEnd (hK _ [(0, _)] _ _ rfl ?_)
    clear hK K
    refine W.ret ?_
    refine ⟨.inr rfl, Ends.v1 (r) (by omega) (by repeat (first | exact self_old | assumption | refine set_old ?_ (by omega) | refine del_old ?_ (by omega) | refine keep_old (by assumption) ?_ (by omega) (by simp; try omega))) hfresh (by repeat (first | exact look_same | assumption | refine look_ne (by omega) ?_ | refine look_del (by omega) ?_ | refine look_keep (by assumption) (by omega) (by simp; try omega) ?_)) ?_ (flat6_plain _) (by simp [ltT, ltA, ltC, ltV]; try omega) (res1 (resT rfl) rfl) ?_⟩
    · rfl
    · (simp [renT, renV, renC, renA, one]; rfl)
theorem spec_l2Long_s (X Y Z : Int) (sv : Value) (p : Nat) (H : Heap) (n : Nat) (hp : p < 3) : Fn Try.prog 123 [.agg #[.int .i64 X, .int .i64 Y, .int .i64 Z, sv], .int .i64 (p : Nat)] H n (.int .i64 (ci (X, Y, Z) p)) (H) (n) := by
  refine Fn.intro' Try.func123 rfl (by kernel_rfl) Try.ntmps123 (by simp) (by omega) fun hfresh => ?_
  show W _ _ _ ⟨[(0, _), (1, _)], _, _⟩ _
  refine W.sR [1, 2] fun K hK => ?_
  refine st rfl rfl (e_boxA rfl) ?_
  refine st rfl rfl (e_assign rfl) ?_
  refine stEnd (hK _ [(1, _), (2, _)] _ _ rfl ?_)
  clear hK K
  refine W.sR [4] fun K hK => ?_
  refine st rfl rfl (e_fieldAddr t30 t3 rfl rfl) ?_
  refine st rfl rfl (e_load1 t3 rfl rfl (by repeat (first | exact look_same | assumption | refine look_ne (by omega) ?_)) rfl) ?_
  refine st rfl rfl (e_fieldAddr t30 t3 rfl rfl) ?_
  refine st rfl rfl (e_load1 t3 rfl rfl (by repeat (first | exact look_same | assumption | refine look_ne (by omega) ?_)) rfl) ?_
  refine st rfl rfl (e_fieldAddr t30 t3 rfl rfl) ?_
  refine st rfl rfl (e_load1 t3 rfl rfl (by repeat (first | exact look_same | assumption | refine look_ne (by omega) ?_)) rfl) ?_
  refine st rfl rfl (e_build rfl rfl (bld25_0_1_2 _ _ _ rfl rfl rfl)) ?_
  refine st rfl rfl (e_move rfl) ?_
  refine st rfl rfl (e_index1 t25 t3 rfl rfl rfl (by omega) (by simpa using (tri_getL (a := X) (b := Y) (c := Z) hp))) ?_
  refine st rfl rfl (e_assign rfl) ?_
  refine stEnd (hK _ [(4, _)] _ _ rfl ?_)
  clear hK K
  refine W.ret ?_
  refine ⟨.inr rfl, Ends.v0 (by repeat (first | exact self_old | assumption | refine set_old ?_ (by omega))) hfresh (by first | rfl | (simp [ltT, ltA, ltC, ltV]; try omega)) (res1 (resT rfl) rfl) ?_⟩
  rfl
theorem spec_l2Long_i_s (X Y Z : Int) (sv : Value) (z : Int) (p : Nat) (H : Heap) (n : Nat) (hz : z = (p : Int)) (hp : p < 3) : Fn Try.prog 123 [.agg #[.int .i64 X, .int .i64 Y, .int .i64 Z, sv], .int .i64 z] H n (.int .i64 (ci (X, Y, Z) p)) (H) n := by
  subst hz
  exact spec_l2Long_s X Y Z sv p H n hp
theorem bsl22_0 {H : Heap} {n : Nat} : cBuildSlice Try.prog 22 0 H n [] = some (.slice (some ⟨n, 0, none⟩) 0 3, H.set n (.cells false []), n + 1) := by
  simp [cBuildSlice, t22, t25, fillC, zeros, konst0, putC, Value.cells]
theorem bld30_0_1_2_3 (v0 : Value) (v1 : Value) (v2 : Value) (v3 : Value) (h0 : oneV v0 = true) (h1 : oneV v1 = true) (h2 : oneV v2 = true) (h3 : oneV v3 = true) : cBuild Try.prog 30 [(0, v0), (1, v1), (2, v2), (3, v3)] = some (.agg #[v0, v1, v2, v3]) := by
  simp [cBuild, t30, t3, t22, fieldsOk, placesC, fillC, konst0, putC, (oneV_cells h0).1, (oneV_cells h1).1, (oneV_cells h2).1, (oneV_cells h3).1]
theorem spec_l2Empty_s (X Y Z : Int) (H : Heap) (n : Nat) : Fn Try.prog 122 [.int .i64 X, .int .i64 Y, .int .i64 Z] H n (.agg #[.int .i64 X, .int .i64 Y, .int .i64 Z, .slice (some ⟨n, 0, none⟩) 0 3]) (H.set n (.cells false [])) (n + 1) := by
  refine Fn.intro' Try.func122 rfl (by kernel_rfl) Try.ntmps122 (by simp) (by omega) fun hfresh => ?_
  show W _ _ _ ⟨[(0, _), (1, _), (2, _)], _, _⟩ _
  refine W.sR [0, 1, 2, 6] fun K hK => ?_
  refine st rfl rfl (e_alloc t30 rfl) ?_
  refine stEnd (hK _ [(0, _), (1, _), (2, _), (6, _)] _ _ rfl ?_)
  clear hK K
  refine W.sR [6] fun K hK => ?_
  refine st rfl rfl (e_move rfl) ?_
  refine st rfl rfl (e_move rfl) ?_
  refine st rfl rfl (e_move rfl) ?_
  refine st rfl rfl (e_buildSlice rfl rfl (bsl22_0)) ?_
  refine st rfl rfl (e_build rfl rfl (bld30_0_1_2_3 _ _ _ _ rfl rfl rfl rfl)) ?_
  refine stN rfl (e_storeA t30 rfl rfl (by repeat (first | exact look_same | assumption | refine look_ne (by omega) ?_)) rfl rfl rfl (by decide)) ?_
  refine stEnd (hK _ [(6, _)] _ _ rfl ?_)
  clear hK K
  refine W.ret ?_
  refine ⟨.inr rfl, Ends.v1 (n + 1) (by omega) (by repeat (first | exact self_old | assumption | refine set_old ?_ (by omega))) hfresh (by repeat (first | exact look_same | assumption | refine look_ne (by omega) ?_)) ?_ rfl (by simp [ltT, ltA, ltC, ltV]; try omega) (res1 (resC t30 rfl rfl (by repeat (first | exact look_same | assumption | refine look_ne (by omega) ?_)) rfl rfl) rfl) ?_⟩
  · rfl
  · first | rfl | simp [renT, renV, renC, renA, one]
theorem spec_l2Made_s (X Y Z : Int) (sv : Value) (b m : Nat) (H : Heap) (n : Nat) (hbn : b < n) : Fn Try.prog 149 [.agg #[.int .i64 X, .int .i64 Y, .int .i64 Z, sv], .slice (some ⟨b, 0, none⟩) m 3] H n (.agg #[.int .i64 X, .int .i64 Y, .int .i64 Z, .slice (some ⟨b, 0, none⟩) m 3]) (H) (n) := by
  refine Fn.intro' Try.func149 rfl (by kernel_rfl) Try.ntmps149 (by simp) (by omega) fun hfresh => ?_
  show W _ _ _ ⟨[(0, _), (1, _)], _, _⟩ _
  refine W.sR [1, 2, 4] fun K hK => ?_
  refine st rfl rfl (e_boxA rfl) ?_
  refine st rfl rfl (e_alloc t30 rfl) ?_
  refine stEnd (hK _ [(1, _), (2, _), (4, _)] _ _ rfl ?_)
  clear hK K
  refine W.sR [4] fun K hK => ?_
  refine st rfl rfl (e_fieldAddr t30 t3 rfl rfl) ?_
  refine st rfl rfl (e_load1 t3 rfl rfl (by repeat (first | exact look_same | assumption | refine look_ne (by omega) ?_)) rfl) ?_
  refine st rfl rfl (e_fieldAddr t30 t3 rfl rfl) ?_
  refine st rfl rfl (e_load1 t3 rfl rfl (by repeat (first | exact look_same | assumption | refine look_ne (by omega) ?_)) rfl) ?_
  refine st rfl rfl (e_fieldAddr t30 t3 rfl rfl) ?_
  refine st rfl rfl (e_load1 t3 rfl rfl (by repeat (first | exact look_same | assumption | refine look_ne (by omega) ?_)) rfl) ?_
  refine st rfl rfl (e_move rfl) ?_
  refine st rfl rfl (e_build rfl rfl (bld30_0_1_2_3 _ _ _ _ rfl rfl rfl rfl)) ?_
  refine stN rfl (e_storeA t30 rfl rfl (by repeat (first | exact look_same | assumption | refine look_ne (by omega) ?_)) rfl rfl rfl (by decide)) ?_
  refine stEnd (hK _ [(4, _)] _ _ rfl ?_)
  clear hK K
  refine W.ret ?_
  refine ⟨.inr rfl, Ends.v0 (by repeat (first | exact self_old | assumption | refine set_old ?_ (by omega))) hfresh (by first | rfl | (simp [ltT, ltA, ltC, ltV]; try omega)) (res1 (resC t30 rfl rfl (by repeat (first | exact look_same | assumption | refine look_ne (by omega) ?_)) rfl rfl) rfl) ?_⟩
  rfl
theorem spec_l2Own_s (X Y Z : Int) (b : Nat) (ro : Bool) (cs : List C) (H : Heap) (n : Nat) (hb : H b = some (.cells ro (flat cs))) (hlen : cs.length ≤ 1048576) : Fn Try.prog 146 [.agg #[.int .i64 X, .int .i64 Y, .int .i64 Z, .slice (some ⟨b, 0, none⟩) cs.length 3]] H n (.agg #[.int .i64 X, .int .i64 Y, .int .i64 Z, .slice (some ⟨n, 0, none⟩) cs.length 3]) (H.set n (.cells false (flat cs))) (n + 1) := by
  refine Fn.intro' Try.func146 rfl (by kernel_rfl) Try.ntmps146 (by simp) (by omega) fun hfresh => ?_
  have lt_hb := lt_fresh hfresh hb
  show W _ _ _ ⟨[(0, _)], _, _⟩ _
  refine W.sR [1, 2] fun K hK => ?_
  refine st rfl rfl (e_boxA rfl) ?_
  refine st rfl rfl (e_alloc t30 rfl) ?_
  refine stEnd (hK _ [(1, _), (2, _)] _ _ rfl ?_)
  clear hK K
  refine W.sD [2] [0, 0, 0, 4, 14, 31, 63] (by kernel_rfl) (by kernel_rfl) fun K hK => ?_
  refine dL rfl rfl rfl (by omega) (accB_ok rfl) (e_loadA t30 rfl rfl (by repeat (first | exact look_same | assumption | refine look_ne (by omega) ?_ | refine look_del (by omega) ?_ | refine look_keep (by assumption) (by omega) (by simp; try omega) ?_)) rfl rfl) ?_
  refine dN rfl rfl rfl (e_buildSlice rfl rfl (bsl22_0)) ?_
  refine dP rfl rfl rfl (e_fieldAddr t30 t22 rfl rfl) ?_
  refine dL rfl rfl rfl (by omega) (by repeat (first | exact trivial | refine And.intro (Or.inl rfl) ?_ | refine And.intro (Or.inr trivial) ?_ | refine And.intro (Or.inr (And.intro (Or.inl (by omega)) (by first | (simp; done) | (simp; omega)))) ?_ | refine And.intro (Or.inr (And.intro (Or.inr (by omega)) (by first | (simp; done) | (simp; omega)))) ?_ | refine And.intro (Or.inr (by simp [compat]; try omega)) ?_)) (e_load1 t22 rfl rfl (by repeat (first | exact look_same | assumption | refine look_ne (by omega) ?_ | refine look_del (by omega) ?_ | refine look_keep (by assumption) (by omega) (by simp; try omega) ?_)) rfl) ?_
  refine dA rfl rfl rfl rfl (app_any t22 t22 t25 rfl rfl (by repeat (first | exact look_same | assumption | refine look_ne (by omega) ?_ | refine look_del (by omega) ?_ | refine look_keep (by assumption) (by omega) (by simp; try omega) ?_ | refine look_hide (by omega) (by first | exact List.not_mem_nil | (simp [hidden, Nat.testBit]; done) | (simp [hidden, Nat.testBit]; omega)) ?_)) (take_row (by repeat (first | exact look_same | assumption | refine look_ne (by omega) ?_ | refine look_del (by omega) ?_ | refine look_keep (by assumption) (by omega) (by simp; try omega) ?_ | refine look_hide (by omega) (by first | exact List.not_mem_nil | (simp [hidden, Nat.testBit]; done) | (simp [hidden, Nat.testBit]; omega)) ?_)) (flat_length _)) (by decide) (by first | rfl | (simp [flat_length]; done) | (simp [flat_length]; omega)) (by first | rfl | (simp [flat_length]; done) | (simp [flat_length]; omega)) (by omega) (by omega)) (by omega) (by first | exact List.not_mem_nil | (simp [hidden, Nat.testBit]; done) | (simp [hidden, Nat.testBit]; omega)) (by first | exact List.not_mem_nil | (simp [hidden, Nat.testBit]; done) | (simp [hidden, Nat.testBit]; omega)) (fun n' => (by repeat (first | exact trivial | refine And.intro (Or.inl rfl) ?_ | refine And.intro (Or.inr trivial) ?_ | refine And.intro (Or.inr (And.intro (Or.inl (by omega)) (by first | (simp; done) | (simp; omega)))) ?_ | refine And.intro (Or.inr (And.intro (Or.inr (by omega)) (by first | (simp; done) | (simp; omega)))) ?_ | refine And.intro (Or.inr (by simp [compat]; try omega)) ?_))) (fun p1 G1 n1 hp1 hk1 hn1 hl1 hb1 => ?_)
  refine dC rfl rfl rfl rfl (spec_l2Made_s _ _ _ _ _ _ _ _ (by omega)) (accB_ok rfl) ?_
  refine dSt rfl rfl (e_storeA t30 rfl rfl (by repeat (first | exact look_same | assumption | refine look_ne (by omega) ?_ | refine look_del (by omega) ?_ | refine look_keep (by assumption) (by omega) (by simp; try omega) ?_ | refine look_hide (by omega) (by first | exact List.not_mem_nil | (simp [hidden, Nat.testBit]; done) | (simp [hidden, Nat.testBit]; omega)) ?_)) rfl rfl rfl (by decide)) (by omega) (by first | exact List.not_mem_nil | (simp [hidden, Nat.testBit]; done) | (simp [hidden, Nat.testBit]; omega)) (accB_ok rfl) ?_
  refine dEnd (hK _ [(2, _)] _ _ rfl ?_)
  clear hK K
  refine W.ret ?_
  refine ⟨.inr rfl, Ends.v1 (p1) (by omega) (by repeat (first | exact self_old | assumption | refine set_old ?_ (by omega) | refine del_old ?_ (by omega) | refine keep_old (by assumption) ?_ (by omega) (by simp; try omega))) hfresh (by repeat (first | exact look_same | assumption | refine look_ne (by omega) ?_ | refine look_del (by omega) ?_ | refine look_keep (by assumption) (by omega) (by simp; try omega) ?_)) ?_ (by first | exact flat_plain _ | exact ints_plain _) (by simp [ltT, ltA, ltC, ltV]; try omega) (res1 (resC t30 rfl rfl (by repeat (first | exact look_same | assumption | refine look_ne (by omega) ?_ | refine look_del (by omega) ?_ | refine look_keep (by assumption) (by omega) (by simp; try omega) ?_)) rfl rfl) rfl) ?_⟩
  · rfl
  · simp [renT, renV, renC, renA, one]
theorem bsl22_1 {H : Heap} {n : Nat} {v0_0 : Value} {v0_1 : Value} {v0_2 : Value} : cBuildSlice Try.prog 22 1 H n [(0, .agg #[v0_0, v0_1, v0_2])] = some (.slice (some ⟨n, 0, none⟩) 1 3, H.set n (.cells false [v0_0, v0_1, v0_2]), n + 1) := by
  simp [cBuildSlice, t22, t25, fillC, zeros, konst0, putC, Value.cells]
theorem spec_l2With_s (X Y Z : Int) (b : Nat) (ro : Bool) (cs : List C) (c : C) (H : Heap) (n : Nat) (hb : H b = some (.cells ro (flat cs))) (hlen : cs.length ≤ 1048576) : Fn Try.prog 124 [.agg #[.int .i64 X, .int .i64 Y, .int .i64 Z, .slice (some ⟨b, 0, none⟩) cs.length 3], .agg #[.int .i64 c.1, .int .i64 c.2.1, .int .i64 c.2.2]] H n (.agg #[.int .i64 X, .int .i64 Y, .int .i64 Z, .slice (some ⟨n, 0, none⟩) (withC cs c).length 3]) (H.set n (.cells false (flat (withC cs c)))) (n + 1) := by
  refine Fn.intro' Try.func124 rfl (by kernel_rfl) Try.ntmps124 (by simp) (by omega) fun hfresh => ?_
  have lt_hb := lt_fresh hfresh hb
  show W _ _ _ ⟨[(0, _), (1, _)], _, _⟩ _
  refine W.sR [2, 3, 4] fun K hK => ?_
  refine st rfl rfl (e_boxA rfl) ?_
  refine st rfl rfl (e_boxA rfl) ?_
  refine st rfl rfl (e_alloc t30 rfl) ?_
  refine stEnd (hK _ [(2, _), (3, _), (4, _)] _ _ rfl ?_)
  clear hK K
  refine W.sR [2, 3, 4, 5] fun K hK => ?_
  refine st rfl rfl (e_assign rfl) ?_
  refine stEnd (hK _ [(2, _), (3, _), (4, _), (5, _)] _ _ rfl ?_)
  clear hK K
  refine W.seq ?_
  refine W.block ?_
  refine W.ord [5, 2, 3, 4] (ts' := [(5, _)] ++ [(2, _), (3, _), (4, _)]) rfl ?_
  refine W.loopC [(5, _)] [] (fun κ V G μ => ∃ k : Nat, V = [(5, .int .i64 (k : Nat))] ∧ κ = cs.length - k ∧ (k ≤ cs.length) ∧ (∀ j, j < k → before (at3 cs j) c = true)) _ ⟨0, rfl, rfl, (by first | omega | assumption | rfl | simp_all), (fun j hj => absurd hj (by omega))⟩ fun κ V G μ hinv hμ hkeep hfr => ?_
  obtain ⟨k, rfl, rfl, hk, hq⟩ := hinv
  refine W.seq ?_
  refine W.sD [2, 3, 4, 5, 19] [0, 0, 2, 6, 15, 31, 63, 127, 63, 511, 1023, 63, 4095, 8191] (by kernel_rfl) (by kernel_rfl) fun K hK => ?_
  refine dP rfl rfl rfl (e_move rfl) ?_
  refine dP rfl rfl rfl (e_fieldAddr t30 t22 rfl rfl) ?_
  refine dL rfl rfl rfl (by omega) (accB_ok rfl) (e_load1 t22 rfl rfl (by repeat (first | exact look_same | assumption | refine look_ne (by omega) ?_ | refine look_del (by omega) ?_ | refine look_keep (by assumption) (by omega) (by simp; try omega) ?_)) rfl) ?_
  refine dP rfl rfl rfl (e_len t22 rfl) ?_
  refine dP rfl rfl rfl (e_lss rfl rfl) ?_
  refine dP rfl rfl rfl (e_move rfl) ?_
  refine dB (fun ha => ?_) (fun ha => ?_)
  ·
    try simp only [decide_eq_true_eq, decide_eq_false_iff_not, Bool.not_eq_true', Bool.not_eq_false', Bool.not_eq_true, Bool.not_eq_false] at ha
    refine dP rfl rfl rfl (e_fieldAddr t30 t22 rfl rfl) ?_
    refine dL rfl rfl rfl (by omega) (accB_ok rfl) (e_load1 t22 rfl rfl (by repeat (first | exact look_same | assumption | refine look_ne (by omega) ?_ | refine look_del (by omega) ?_ | refine look_keep (by assumption) (by omega) (by simp; try omega) ?_)) rfl) ?_
    refine dP rfl rfl rfl (e_move rfl) ?_
    refine dP rfl rfl rfl (e_idxSK _ t22 t25 rfl rfl rfl (by first | omega | decide)) ?_
    refine dL rfl rfl rfl (by omega) (accB_ok rfl) (e_loadP t25 rfl rfl (by repeat (first | exact look_same | assumption | refine look_ne (by omega) ?_ | refine look_del (by omega) ?_ | refine look_keep (by assumption) (by omega) (by simp; try omega) ?_)) (flat_at (by omega))) ?_
    refine dL rfl rfl rfl (by omega) (accB_ok rfl) (e_loadA t25 rfl rfl (by repeat (first | exact look_same | assumption | refine look_ne (by omega) ?_ | refine look_del (by omega) ?_ | refine look_keep (by assumption) (by omega) (by simp; try omega) ?_)) rfl rfl) ?_
    refine dC rfl rfl rfl rfl (spec_l2Before_s _ _ _ _ ) (accB_ok rfl) ?_
    refine dP rfl rfl rfl (e_pickT rfl rfl) ?_
    refine dB (fun hw => ?_) (fun hw => ?_)
    ·
      try simp only [decide_eq_true_eq, decide_eq_false_iff_not, Bool.not_eq_true', Bool.not_eq_false', Bool.not_eq_true, Bool.not_eq_false] at hw
      refine dEnd (hK _ [(2, _), (3, _), (4, _), (5, _), (19, _)] _ _ rfl ?_)
      clear hK K
      refine W.condT rfl ?_
      refine W.skip ?_
      refine thenN ?_
      refine W.block ?_
      refine W.rR [2, 3, 4, 5] fun K hK => ?_
      refine st rfl rfl (e_move rfl) ?_
      refine st rfl rfl (e_add rfl rfl (inB _ (by omega))) ?_
      refine st rfl rfl (e_assign rfl) ?_
      refine stEnd (hK _ [(2, _), (3, _), (4, _), (5, _)] _ _ rfl ?_)
      clear hK K
      refine blockN ?_
      exact roundN (V' := [(5, _)]) [5, 2, 3, 4] rfl (by omega) (by repeat (first | exact Keeps.refl _ _ _ | assumption | refine Keeps.trans ?_ (by assumption) (by omega) (by simp; try omega) | refine Keeps.set ?_ (by first | exact Or.inl (by omega) | (simp; done) | (simp; omega)) | refine Keeps.del ?_ (by first | exact Or.inl (by omega) | (simp; done) | (simp; omega)) | refine Keeps.delO2 ?_ (by omega))) _ (by omega) ⟨k + 1, rfl, rfl, (by first | omega | assumption | simp_all), (all_succ hq (by assumption))⟩
    ·
      try simp only [decide_eq_true_eq, decide_eq_false_iff_not, Bool.not_eq_true', Bool.not_eq_false', Bool.not_eq_true, Bool.not_eq_false] at hw
      have h2 : k = cs.length ∨ before (at3 cs k) c = false := .inr (by assumption)
      refine dEnd (hK _ [(2, _), (3, _), (4, _), (5, _), (19, _)] _ _ rfl ?_)
      clear hK K
      refine W.condF rfl ?_
      refine W.exit ?_
      refine thenE ?_
      refine thenE ?_
      refine blockX ?_
      refine thenN ?_
      refine W.seq ?_
      refine W.sD [2, 3, 4, 5, 35] [0, 0, 2, 6, 15, 31, 63, 127, 63, 511, 1023, 63, 4095, 8191] (by kernel_rfl) (by kernel_rfl) fun K hK => ?_
      refine dP rfl rfl rfl (e_move rfl) ?_
      refine dP rfl rfl rfl (e_fieldAddr t30 t22 rfl rfl) ?_
      refine dL rfl rfl rfl (by omega) (accB_ok rfl) (e_load1 t22 rfl rfl (by repeat (first | exact look_same | assumption | refine look_ne (by omega) ?_ | refine look_del (by omega) ?_ | refine look_keep (by assumption) (by omega) (by simp; try omega) ?_)) rfl) ?_
      refine dP rfl rfl rfl (e_len t22 rfl) ?_
      refine dP rfl rfl rfl (e_lss rfl rfl) ?_
      refine dP rfl rfl rfl (e_move rfl) ?_
      refine dB (fun hu => ?_) (fun hu => ?_)
      ·
        try simp only [decide_eq_true_eq, decide_eq_false_iff_not, Bool.not_eq_true', Bool.not_eq_false', Bool.not_eq_true, Bool.not_eq_false] at hu
        refine dP rfl rfl rfl (e_fieldAddr t30 t22 rfl rfl) ?_
        refine dL rfl rfl rfl (by omega) (accB_ok rfl) (e_load1 t22 rfl rfl (by repeat (first | exact look_same | assumption | refine look_ne (by omega) ?_ | refine look_del (by omega) ?_ | refine look_keep (by assumption) (by omega) (by simp; try omega) ?_)) rfl) ?_
        refine dP rfl rfl rfl (e_move rfl) ?_
        refine dP rfl rfl rfl (e_idxSK _ t22 t25 rfl rfl rfl (by first | omega | decide)) ?_
        refine dL rfl rfl rfl (by omega) (accB_ok rfl) (e_loadP t25 rfl rfl (by repeat (first | exact look_same | assumption | refine look_ne (by omega) ?_ | refine look_del (by omega) ?_ | refine look_keep (by assumption) (by omega) (by simp; try omega) ?_)) (flat_at (by omega))) ?_
        refine dL rfl rfl rfl (by omega) (accB_ok rfl) (e_loadA t25 rfl rfl (by repeat (first | exact look_same | assumption | refine look_ne (by omega) ?_ | refine look_del (by omega) ?_ | refine look_keep (by assumption) (by omega) (by simp; try omega) ?_)) rfl rfl) ?_
        refine dP rfl rfl rfl (e_eqA3 t25 t3 rfl rfl) ?_
        refine dP rfl rfl rfl (e_pickT rfl rfl) ?_
        refine dB (fun hz => ?_) (fun hz => ?_)
        ·
          try simp only [decide_eq_true_eq, decide_eq_false_iff_not, Bool.not_eq_true', Bool.not_eq_false', Bool.not_eq_true, Bool.not_eq_false] at hz
          have hwe : withC cs c = cs := withC_same (by omega) hq (by rw [hz]; exact before_irrefl c) hz
          refine dEnd (hK _ [(2, _), (3, _), (4, _), (5, _), (35, _)] _ _ rfl ?_)
          clear hK K
          refine W.condT rfl ?_
          refine W.sR [4] fun K hK => ?_
          refine st rfl rfl (e_loadA t30 rfl rfl (by repeat (first | exact look_same | assumption | refine look_ne (by omega) ?_ | refine look_del (by omega) ?_ | refine look_keep (by assumption) (by omega) (by simp; try omega) ?_)) rfl rfl) ?_
          refine stC rfl rfl rfl (spec_l2Own_s _ _ _ _ _ _ _ _ (by repeat (first | exact look_same | assumption | refine look_ne (by omega) ?_ | refine look_del (by omega) ?_ | refine look_keep (by assumption) (by omega) (by simp; try omega) ?_)) (by omega)) ?_
          refine stN rfl (e_storeA t30 rfl rfl (by repeat (first | exact look_same | assumption | refine look_ne (by omega) ?_ | refine look_del (by omega) ?_ | refine look_keep (by assumption) (by omega) (by simp; try omega) ?_)) rfl rfl rfl (by decide)) ?_
          refine stEnd (hK _ [(4, _)] _ _ rfl ?_)
          clear hK K
          refine W.ret ?_
          refine thenR ?_
          refine ⟨.inr rfl, Ends.v1 (μ) (by omega) (by repeat (first | exact self_old | assumption | refine set_old ?_ (by omega) | refine del_old ?_ (by omega) | refine keep_old (by assumption) ?_ (by omega) (by simp; try omega))) hfresh (by repeat (first | exact look_same | assumption | refine look_ne (by omega) ?_ | refine look_del (by omega) ?_ | refine look_keep (by assumption) (by omega) (by simp; try omega) ?_)) ?_ (by first | exact flat_plain _ | exact ints_plain _) (by simp [ltT, ltA, ltC, ltV]; try omega) (res1 (resC t30 rfl rfl (by repeat (first | exact look_same | assumption | refine look_ne (by omega) ?_ | refine look_del (by omega) ?_ | refine look_keep (by assumption) (by omega) (by simp; try omega) ?_)) rfl rfl) rfl) ?_⟩
          · rw [hwe]
          · simp [renT, renV, renC, renA, one, hwe]
        ·
          try simp only [decide_eq_true_eq, decide_eq_false_iff_not, Bool.not_eq_true', Bool.not_eq_false', Bool.not_eq_true, Bool.not_eq_false] at hz
          have h3 : k = cs.length ∨ ¬ at3 cs k = c := .inr hz
          refine dEnd (hK _ [(2, _), (3, _), (4, _), (5, _), (35, _)] _ _ rfl ?_)
          clear hK K
          refine W.condF rfl ?_
          refine W.skip ?_
          refine thenN ?_
          refine W.sD [4] [0, 0, 0, 4, 0, 28, 62, 0, 128, 510, 0, 1024, 0, 7168, 16382, 32767, 65535] (by kernel_rfl) (by kernel_rfl) fun K hK => ?_
          refine dL rfl rfl rfl (by omega) (accB_ok rfl) (e_loadA t30 rfl rfl (by repeat (first | exact look_same | assumption | refine look_ne (by omega) ?_ | refine look_del (by omega) ?_ | refine look_keep (by assumption) (by omega) (by simp; try omega) ?_)) rfl rfl) ?_
          refine dN rfl rfl rfl (e_buildSlice rfl rfl (bsl22_0)) ?_
          refine dP rfl rfl rfl (e_fieldAddr t30 t22 rfl rfl) ?_
          refine dL rfl rfl rfl (by omega) (by repeat (first | exact trivial | refine And.intro (Or.inl rfl) ?_ | refine And.intro (Or.inr trivial) ?_ | refine And.intro (Or.inr (And.intro (Or.inl (by omega)) (by first | (simp; done) | (simp; omega)))) ?_ | refine And.intro (Or.inr (And.intro (Or.inr (by omega)) (by first | (simp; done) | (simp; omega)))) ?_ | refine And.intro (Or.inr (by simp [compat]; try omega)) ?_)) (e_load1 t22 rfl rfl (by repeat (first | exact look_same | assumption | refine look_ne (by omega) ?_ | refine look_del (by omega) ?_ | refine look_keep (by assumption) (by omega) (by simp; try omega) ?_)) rfl) ?_
          refine dP rfl rfl rfl (e_move rfl) ?_
          refine dP rfl rfl rfl (e_sliceHi (k) t22 t25 rfl rfl rfl (by omega)) ?_
          refine dA rfl rfl rfl rfl (app_any t22 t22 t25 rfl rfl (by repeat (first | exact look_same | assumption | refine look_ne (by omega) ?_ | refine look_del (by omega) ?_ | refine look_keep (by assumption) (by omega) (by simp; try omega) ?_ | refine look_hide (by omega) (by first | exact List.not_mem_nil | (simp [hidden, Nat.testBit]; done) | (simp [hidden, Nat.testBit]; omega)) ?_)) (take_subHi (by repeat (first | exact look_same | assumption | refine look_ne (by omega) ?_ | refine look_del (by omega) ?_ | refine look_keep (by assumption) (by omega) (by simp; try omega) ?_ | refine look_hide (by omega) (by first | exact List.not_mem_nil | (simp [hidden, Nat.testBit]; done) | (simp [hidden, Nat.testBit]; omega)) ?_)) hk) (by decide) (by first | rfl | (simp [flat_length]; done) | (simp [flat_length]; omega)) (by first | rfl | (simp [flat_length]; done) | (simp [flat_length]; omega)) (by omega) (by omega)) (by omega) (by first | exact List.not_mem_nil | (simp [hidden, Nat.testBit]; done) | (simp [hidden, Nat.testBit]; omega)) (by first | exact List.not_mem_nil | (simp [hidden, Nat.testBit]; done) | (simp [hidden, Nat.testBit]; omega)) (fun n' => (by repeat (first | exact trivial | refine And.intro (Or.inl rfl) ?_ | refine And.intro (Or.inr trivial) ?_ | refine And.intro (Or.inr (And.intro (Or.inl (by omega)) (by first | (simp; done) | (simp; omega)))) ?_ | refine And.intro (Or.inr (And.intro (Or.inr (by omega)) (by first | (simp; done) | (simp; omega)))) ?_ | refine And.intro (Or.inr (by simp [compat]; try omega)) ?_))) (fun p1 G1 n1 hp1 hk1 hn1 hl1 hb1 => ?_)
          refine dL rfl rfl rfl (by omega) (by repeat (first | exact trivial | refine And.intro (Or.inl rfl) ?_ | refine And.intro (Or.inr trivial) ?_ | refine And.intro (Or.inr (And.intro (Or.inl (by omega)) (by first | (simp; done) | (simp; omega)))) ?_ | refine And.intro (Or.inr (And.intro (Or.inr (by omega)) (by first | (simp; done) | (simp; omega)))) ?_ | refine And.intro (Or.inr (by simp [compat]; try omega)) ?_)) (e_loadA t25 rfl rfl (by repeat (first | exact look_same | assumption | refine look_ne (by omega) ?_ | refine look_del (by omega) ?_ | refine look_keep (by assumption) (by omega) (by simp; try omega) ?_)) rfl rfl) ?_
          refine dN rfl rfl rfl (e_buildSlice rfl rfl (bsl22_1)) ?_
          refine dA rfl rfl rfl rfl (app_any t22 t22 t25 rfl rfl (by repeat (first | exact look_same | assumption | refine look_ne (by omega) ?_ | refine look_del (by omega) ?_ | refine look_keep (by assumption) (by omega) (by simp; try omega) ?_ | refine look_hide (by omega) (by first | exact List.not_mem_nil | (simp [hidden, Nat.testBit]; done) | (simp [hidden, Nat.testBit]; omega)) ?_)) (take_row (m := 1) (by repeat (first | exact look_same | assumption | refine look_ne (by omega) ?_ | refine look_del (by omega) ?_ | refine look_keep (by assumption) (by omega) (by simp; try omega) ?_ | refine look_hide (by omega) (by first | exact List.not_mem_nil | (simp [hidden, Nat.testBit]; done) | (simp [hidden, Nat.testBit]; omega)) ?_)) rfl) (by decide) (by first | rfl | (simp [flat_length]; done) | (simp [flat_length]; omega)) (by first | rfl | (simp [flat_length]; done) | (simp [flat_length]; omega)) (by omega) (by omega)) (by omega) (by first | exact List.not_mem_nil | (simp [hidden, Nat.testBit]; done) | (simp [hidden, Nat.testBit]; omega)) (by first | exact List.not_mem_nil | (simp [hidden, Nat.testBit]; done) | (simp [hidden, Nat.testBit]; omega)) (fun n' => (by repeat (first | exact trivial | refine And.intro (Or.inl rfl) ?_ | refine And.intro (Or.inr trivial) ?_ | refine And.intro (Or.inr (And.intro (Or.inl (by omega)) (by first | (simp; done) | (simp; omega)))) ?_ | refine And.intro (Or.inr (And.intro (Or.inr (by omega)) (by first | (simp; done) | (simp; omega)))) ?_ | refine And.intro (Or.inr (by simp [compat]; try omega)) ?_))) (fun p2 G2 n2 hp2 hk2 hn2 hl2 hb2 => ?_)
          refine dP rfl rfl rfl (e_fieldAddr t30 t22 rfl rfl) ?_
          refine dL rfl rfl rfl (by omega) (by repeat (first | exact trivial | refine And.intro (Or.inl rfl) ?_ | refine And.intro (Or.inr trivial) ?_ | refine And.intro (Or.inr (And.intro (Or.inl (by omega)) (by first | (simp; done) | (simp; omega)))) ?_ | refine And.intro (Or.inr (And.intro (Or.inr (by omega)) (by first | (simp; done) | (simp; omega)))) ?_ | refine And.intro (Or.inr (by simp [compat]; try omega)) ?_)) (e_load1 t22 rfl rfl (by repeat (first | exact look_same | assumption | refine look_ne (by omega) ?_ | refine look_del (by omega) ?_ | refine look_keep (by assumption) (by omega) (by simp; try omega) ?_)) rfl) ?_
          refine dP rfl rfl rfl (e_move rfl) ?_
          refine dP rfl rfl rfl (e_sliceLo (k) t22 t25 rfl rfl rfl (by omega)) ?_
          refine dA rfl rfl rfl rfl (app_any t22 t22 t25 rfl rfl (by repeat (first | exact look_same | assumption | refine look_ne (by omega) ?_ | refine look_del (by omega) ?_ | refine look_keep (by assumption) (by omega) (by simp; try omega) ?_ | refine look_hide (by omega) (by first | exact List.not_mem_nil | (simp [hidden, Nat.testBit]; done) | (simp [hidden, Nat.testBit]; omega)) ?_)) (take_subLo (by repeat (first | exact look_same | assumption | refine look_ne (by omega) ?_ | refine look_del (by omega) ?_ | refine look_keep (by assumption) (by omega) (by simp; try omega) ?_ | refine look_hide (by omega) (by first | exact List.not_mem_nil | (simp [hidden, Nat.testBit]; done) | (simp [hidden, Nat.testBit]; omega)) ?_)) rfl hk) (by decide) (by first | rfl | (simp [flat_length]; done) | (simp [flat_length]; omega)) (by first | rfl | (simp [flat_length]; done) | (simp [flat_length]; omega)) (by omega) (by omega)) (by omega) (by first | exact List.not_mem_nil | (simp [hidden, Nat.testBit]; done) | (simp [hidden, Nat.testBit]; omega)) (by first | exact List.not_mem_nil | (simp [hidden, Nat.testBit]; done) | (simp [hidden, Nat.testBit]; omega)) (fun n' => (by repeat (first | exact trivial | refine And.intro (Or.inl rfl) ?_ | refine And.intro (Or.inr trivial) ?_ | refine And.intro (Or.inr (And.intro (Or.inl (by omega)) (by first | (simp; done) | (simp; omega)))) ?_ | refine And.intro (Or.inr (And.intro (Or.inr (by omega)) (by first | (simp; done) | (simp; omega)))) ?_ | refine And.intro (Or.inr (by simp [compat]; try omega)) ?_))) (fun p9 G9 n9 hp9 hk9 hn9 hl9 hb9 => ?_)
          refine dC rfl rfl rfl rfl (spec_l2Made_s _ _ _ _ _ _ _ _ (by omega)) (accB_ok rfl) ?_
          refine dSt rfl rfl (e_storeA t30 rfl rfl (by repeat (first | exact look_same | assumption | refine look_ne (by omega) ?_ | refine look_del (by omega) ?_ | refine look_keep (by assumption) (by omega) (by simp; try omega) ?_ | refine look_hide (by omega) (by first | exact List.not_mem_nil | (simp [hidden, Nat.testBit]; done) | (simp [hidden, Nat.testBit]; omega)) ?_)) rfl rfl rfl (by decide)) (by omega) (by first | exact List.not_mem_nil | (simp [hidden, Nat.testBit]; done) | (simp [hidden, Nat.testBit]; omega)) (accB_ok rfl) ?_
          refine dEnd (hK _ [(4, _)] _ _ rfl ?_)
          clear hK K
          refine W.ret ?_
          refine ⟨.inr rfl, Ends.v1 (p9) (by omega) (by repeat (first | exact self_old | assumption | refine set_old ?_ (by omega) | refine del_old ?_ (by omega) | refine keep_old (by assumption) ?_ (by omega) (by simp; try omega))) hfresh (by repeat (first | exact look_same | assumption | refine look_ne (by omega) ?_ | refine look_del (by omega) ?_ | refine look_keep (by assumption) (by omega) (by simp; try omega) ?_)) ?_ (by first | exact flat_plain _ | exact ints_plain _) (by simp [ltT, ltA, ltC, ltV]; try omega) (res1 (resC t30 rfl rfl (by repeat (first | exact look_same | assumption | refine look_ne (by omega) ?_ | refine look_del (by omega) ?_ | refine look_keep (by assumption) (by omega) (by simp; try omega) ?_)) rfl rfl) rfl) ?_⟩
          · (rw [withC_new hk hq h2 h3]; simp [flat_append, flat])
          · (rw [withC_new hk hq h2 h3]; simp [renT, renV, renC, renA, one]; omega)
      ·
        try simp only [decide_eq_true_eq, decide_eq_false_iff_not, Bool.not_eq_true', Bool.not_eq_false', Bool.not_eq_true, Bool.not_eq_false] at hu
        have h3 : k = cs.length ∨ ¬ at3 cs k = c := .inl (by omega)
        refine dS rfl rfl ?_
        refine dS rfl rfl ?_
        refine dS rfl rfl ?_
        refine dS rfl rfl ?_
        refine dS rfl rfl ?_
        refine dS rfl rfl ?_
        refine dS rfl rfl ?_
        refine dP rfl rfl rfl (e_pickF rfl rfl) ?_
        refine dEnd (hK _ [(2, _), (3, _), (4, _), (5, _), (35, _)] _ _ rfl ?_)
        clear hK K
        refine W.condF rfl ?_
        refine W.skip ?_
        refine thenN ?_
        refine W.sD [4] [0, 0, 0, 4, 0, 28, 62, 0, 128, 510, 0, 1024, 0, 7168, 16382, 32767, 65535] (by kernel_rfl) (by kernel_rfl) fun K hK => ?_
        refine dL rfl rfl rfl (by omega) (accB_ok rfl) (e_loadA t30 rfl rfl (by repeat (first | exact look_same | assumption | refine look_ne (by omega) ?_ | refine look_del (by omega) ?_ | refine look_keep (by assumption) (by omega) (by simp; try omega) ?_)) rfl rfl) ?_
        refine dN rfl rfl rfl (e_buildSlice rfl rfl (bsl22_0)) ?_
        refine dP rfl rfl rfl (e_fieldAddr t30 t22 rfl rfl) ?_
        refine dL rfl rfl rfl (by omega) (by repeat (first | exact trivial | refine And.intro (Or.inl rfl) ?_ | refine And.intro (Or.inr trivial) ?_ | refine And.intro (Or.inr (And.intro (Or.inl (by omega)) (by first | (simp; done) | (simp; omega)))) ?_ | refine And.intro (Or.inr (And.intro (Or.inr (by omega)) (by first | (simp; done) | (simp; omega)))) ?_ | refine And.intro (Or.inr (by simp [compat]; try omega)) ?_)) (e_load1 t22 rfl rfl (by repeat (first | exact look_same | assumption | refine look_ne (by omega) ?_ | refine look_del (by omega) ?_ | refine look_keep (by assumption) (by omega) (by simp; try omega) ?_)) rfl) ?_
        refine dP rfl rfl rfl (e_move rfl) ?_
        refine dP rfl rfl rfl (e_sliceHi (k) t22 t25 rfl rfl rfl (by omega)) ?_
        refine dA rfl rfl rfl rfl (app_any t22 t22 t25 rfl rfl (by repeat (first | exact look_same | assumption | refine look_ne (by omega) ?_ | refine look_del (by omega) ?_ | refine look_keep (by assumption) (by omega) (by simp; try omega) ?_ | refine look_hide (by omega) (by first | exact List.not_mem_nil | (simp [hidden, Nat.testBit]; done) | (simp [hidden, Nat.testBit]; omega)) ?_)) (take_subHi (by repeat (first | exact look_same | assumption | refine look_ne (by omega) ?_ | refine look_del (by omega) ?_ | refine look_keep (by assumption) (by omega) (by simp; try omega) ?_ | refine look_hide (by omega) (by first | exact List.not_mem_nil | (simp [hidden, Nat.testBit]; done) | (simp [hidden, Nat.testBit]; omega)) ?_)) hk) (by decide) (by first | rfl | (simp [flat_length]; done) | (simp [flat_length]; omega)) (by first | rfl | (simp [flat_length]; done) | (simp [flat_length]; omega)) (by omega) (by omega)) (by omega) (by first | exact List.not_mem_nil | (simp [hidden, Nat.testBit]; done) | (simp [hidden, Nat.testBit]; omega)) (by first | exact List.not_mem_nil | (simp [hidden, Nat.testBit]; done) | (simp [hidden, Nat.testBit]; omega)) (fun n' => (by repeat (first | exact trivial | refine And.intro (Or.inl rfl) ?_ | refine And.intro (Or.inr trivial) ?_ | refine And.intro (Or.inr (And.intro (Or.inl (by omega)) (by first | (simp; done) | (simp; omega)))) ?_ | refine And.intro (Or.inr (And.intro (Or.inr (by omega)) (by first | (simp; done) | (simp; omega)))) ?_ | refine And.intro (Or.inr (by simp [compat]; try omega)) ?_))) (fun p1 G1 n1 hp1 hk1 hn1 hl1 hb1 => ?_)
        refine dL rfl rfl rfl (by omega) (by repeat (first | exact trivial | refine And.intro (Or.inl rfl) ?_ | refine And.intro (Or.inr trivial) ?_ | refine And.intro (Or.inr (And.intro (Or.inl (by omega)) (by first | (simp; done) | (simp; omega)))) ?_ | refine And.intro (Or.inr (And.intro (Or.inr (by omega)) (by first | (simp; done) | (simp; omega)))) ?_ | refine And.intro (Or.inr (by simp [compat]; try omega)) ?_)) (e_loadA t25 rfl rfl (by repeat (first | exact look_same | assumption | refine look_ne (by omega) ?_ | refine look_del (by omega) ?_ | refine look_keep (by assumption) (by omega) (by simp; try omega) ?_)) rfl rfl) ?_
        refine dN rfl rfl rfl (e_buildSlice rfl rfl (bsl22_1)) ?_
        refine dA rfl rfl rfl rfl (app_any t22 t22 t25 rfl rfl (by repeat (first | exact look_same | assumption | refine look_ne (by omega) ?_ | refine look_del (by omega) ?_ | refine look_keep (by assumption) (by omega) (by simp; try omega) ?_ | refine look_hide (by omega) (by first | exact List.not_mem_nil | (simp [hidden, Nat.testBit]; done) | (simp [hidden, Nat.testBit]; omega)) ?_)) (take_row (m := 1) (by repeat (first | exact look_same | assumption | refine look_ne (by omega) ?_ | refine look_del (by omega) ?_ | refine look_keep (by assumption) (by omega) (by simp; try omega) ?_ | refine look_hide (by omega) (by first | exact List.not_mem_nil | (simp [hidden, Nat.testBit]; done) | (simp [hidden, Nat.testBit]; omega)) ?_)) rfl) (by decide) (by first | rfl | (simp [flat_length]; done) | (simp [flat_length]; omega)) (by first | rfl | (simp [flat_length]; done) | (simp [flat_length]; omega)) (by omega) (by omega)) (by omega) (by first | exact List.not_mem_nil | (simp [hidden, Nat.testBit]; done) | (simp [hidden, Nat.testBit]; omega)) (by first | exact List.not_mem_nil | (simp [hidden, Nat.testBit]; done) | (simp [hidden, Nat.testBit]; omega)) (fun n' => (by repeat (first | exact trivial | refine And.intro (Or.inl rfl) ?_ | refine And.intro (Or.inr trivial) ?_ | refine And.intro (Or.inr (And.intro (Or.inl (by omega)) (by first | (simp; done) | (simp; omega)))) ?_ | refine And.intro (Or.inr (And.intro (Or.inr (by omega)) (by first | (simp; done) | (simp; omega)))) ?_ | refine And.intro (Or.inr (by simp [compat]; try omega)) ?_))) (fun p2 G2 n2 hp2 hk2 hn2 hl2 hb2 => ?_)
        refine dP rfl rfl rfl (e_fieldAddr t30 t22 rfl rfl) ?_
        refine dL rfl rfl rfl (by omega) (by repeat (first | exact trivial | refine And.intro (Or.inl rfl) ?_ | refine And.intro (Or.inr trivial) ?_ | refine And.intro (Or.inr (And.intro (Or.inl (by omega)) (by first | (simp; done) | (simp; omega)))) ?_ | refine And.intro (Or.inr (And.intro (Or.inr (by omega)) (by first | (simp; done) | (simp; omega)))) ?_ | refine And.intro (Or.inr (by simp [compat]; try omega)) ?_)) (e_load1 t22 rfl rfl (by repeat (first | exact look_same | assumption | refine look_ne (by omega) ?_ | refine look_del (by omega) ?_ | refine look_keep (by assumption) (by omega) (by simp; try omega) ?_)) rfl) ?_
        refine dP rfl rfl rfl (e_move rfl) ?_
        refine dP rfl rfl rfl (e_sliceLo (k) t22 t25 rfl rfl rfl (by omega)) ?_
        refine dA rfl rfl rfl rfl (app_any t22 t22 t25 rfl rfl (by repeat (first | exact look_same | assumption | refine look_ne (by omega) ?_ | refine look_del (by omega) ?_ | refine look_keep (by assumption) (by omega) (by simp; try omega) ?_ | refine look_hide (by omega) (by first | exact List.not_mem_nil | (simp [hidden, Nat.testBit]; done) | (simp [hidden, Nat.testBit]; omega)) ?_)) (take_subLo (by repeat (first | exact look_same | assumption | refine look_ne (by omega) ?_ | refine look_del (by omega) ?_ | refine look_keep (by assumption) (by omega) (by simp; try omega) ?_ | refine look_hide (by omega) (by first | exact List.not_mem_nil | (simp [hidden, Nat.testBit]; done) | (simp [hidden, Nat.testBit]; omega)) ?_)) rfl hk) (by decide) (by first | rfl | (simp [flat_length]; done) | (simp [flat_length]; omega)) (by first | rfl | (simp [flat_length]; done) | (simp [flat_length]; omega)) (by omega) (by omega)) (by omega) (by first | exact List.not_mem_nil | (simp [hidden, Nat.testBit]; done) | (simp [hidden, Nat.testBit]; omega)) (by first | exact List.not_mem_nil | (simp [hidden, Nat.testBit]; done) | (simp [hidden, Nat.testBit]; omega)) (fun n' => (by repeat (first | exact trivial | refine And.intro (Or.inl rfl) ?_ | refine And.intro (Or.inr trivial) ?_ | refine And.intro (Or.inr (And.intro (Or.inl (by omega)) (by first | (simp; done) | (simp; omega)))) ?_ | refine And.intro (Or.inr (And.intro (Or.inr (by omega)) (by first | (simp; done) | (simp; omega)))) ?_ | refine And.intro (Or.inr (by simp [compat]; try omega)) ?_))) (fun p9 G9 n9 hp9 hk9 hn9 hl9 hb9 => ?_)
        refine dC rfl rfl rfl rfl (spec_l2Made_s _ _ _ _ _ _ _ _ (by omega)) (accB_ok rfl) ?_
        refine dSt rfl rfl (e_storeA t30 rfl rfl (by repeat (first | exact look_same | assumption | refine look_ne (by omega) ?_ | refine look_del (by omega) ?_ | refine look_keep (by assumption) (by omega) (by simp; try omega) ?_ | refine look_hide (by omega) (by first | exact List.not_mem_nil | (simp [hidden, Nat.testBit]; done) | (simp [hidden, Nat.testBit]; omega)) ?_)) rfl rfl rfl (by decide)) (by omega) (by first | exact List.not_mem_nil | (simp [hidden, Nat.testBit]; done) | (simp [hidden, Nat.testBit]; omega)) (accB_ok rfl) ?_
        refine dEnd (hK _ [(4, _)] _ _ rfl ?_)
        clear hK K
        refine W.ret ?_
        refine ⟨.inr rfl, Ends.v1 (p9) (by omega) (by repeat (first | exact self_old | assumption | refine set_old ?_ (by omega) | refine del_old ?_ (by omega) | refine keep_old (by assumption) ?_ (by omega) (by simp; try omega))) hfresh (by repeat (first | exact look_same | assumption | refine look_ne (by omega) ?_ | refine look_del (by omega) ?_ | refine look_keep (by assumption) (by omega) (by simp; try omega) ?_)) ?_ (by first | exact flat_plain _ | exact ints_plain _) (by simp [ltT, ltA, ltC, ltV]; try omega) (res1 (resC t30 rfl rfl (by repeat (first | exact look_same | assumption | refine look_ne (by omega) ?_ | refine look_del (by omega) ?_ | refine look_keep (by assumption) (by omega) (by simp; try omega) ?_)) rfl rfl) rfl) ?_⟩
        · (rw [withC_new hk hq h2 h3]; simp [flat_append, flat])
        · (rw [withC_new hk hq h2 h3]; simp [renT, renV, renC, renA, one]; omega)
  ·
    try simp only [decide_eq_true_eq, decide_eq_false_iff_not, Bool.not_eq_true', Bool.not_eq_false', Bool.not_eq_true, Bool.not_eq_false] at ha
    have h2 : k = cs.length ∨ before (at3 cs k) c = false := .inl (by omega)
    refine dS rfl rfl ?_
    refine dS rfl rfl ?_
    refine dS rfl rfl ?_
    refine dS rfl rfl ?_
    refine dS rfl rfl ?_
    refine dS rfl rfl ?_
    refine dS rfl rfl ?_
    refine dP rfl rfl rfl (e_pickF rfl rfl) ?_
    refine dEnd (hK _ [(2, _), (3, _), (4, _), (5, _), (19, _)] _ _ rfl ?_)
    clear hK K
    refine W.condF rfl ?_
    refine W.exit ?_
    refine thenE ?_
    refine thenE ?_
    refine blockX ?_
    refine thenN ?_
    refine W.seq ?_
    refine W.sD [2, 3, 4, 5, 35] [0, 0, 2, 6, 15, 31, 63, 127, 63, 511, 1023, 63, 4095, 8191] (by kernel_rfl) (by kernel_rfl) fun K hK => ?_
    refine dP rfl rfl rfl (e_move rfl) ?_
    refine dP rfl rfl rfl (e_fieldAddr t30 t22 rfl rfl) ?_
    refine dL rfl rfl rfl (by omega) (accB_ok rfl) (e_load1 t22 rfl rfl (by repeat (first | exact look_same | assumption | refine look_ne (by omega) ?_ | refine look_del (by omega) ?_ | refine look_keep (by assumption) (by omega) (by simp; try omega) ?_)) rfl) ?_
    refine dP rfl rfl rfl (e_len t22 rfl) ?_
    refine dP rfl rfl rfl (e_lss rfl rfl) ?_
    refine dP rfl rfl rfl (e_move rfl) ?_
    refine dB (fun hu => ?_) (fun hu => ?_)
    ·
      try simp only [decide_eq_true_eq, decide_eq_false_iff_not, Bool.not_eq_true', Bool.not_eq_false', Bool.not_eq_true, Bool.not_eq_false] at hu
      refine dP rfl rfl rfl (e_fieldAddr t30 t22 rfl rfl) ?_
      refine dL rfl rfl rfl (by omega) (accB_ok rfl) (e_load1 t22 rfl rfl (by repeat (first | exact look_same | assumption | refine look_ne (by omega) ?_ | refine look_del (by omega) ?_ | refine look_keep (by assumption) (by omega) (by simp; try omega) ?_)) rfl) ?_
      refine dP rfl rfl rfl (e_move rfl) ?_
      refine dP rfl rfl rfl (e_idxSK _ t22 t25 rfl rfl rfl (by first | omega | decide)) ?_
      refine dL rfl rfl rfl (by omega) (accB_ok rfl) (e_loadP t25 rfl rfl (by repeat (first | exact look_same | assumption | refine look_ne (by omega) ?_ | refine look_del (by omega) ?_ | refine look_keep (by assumption) (by omega) (by simp; try omega) ?_)) (flat_at (by omega))) ?_
      refine dL rfl rfl rfl (by omega) (accB_ok rfl) (e_loadA t25 rfl rfl (by repeat (first | exact look_same | assumption | refine look_ne (by omega) ?_ | refine look_del (by omega) ?_ | refine look_keep (by assumption) (by omega) (by simp; try omega) ?_)) rfl rfl) ?_
      refine dP rfl rfl rfl (e_eqA3 t25 t3 rfl rfl) ?_
      refine dP rfl rfl rfl (e_pickT rfl rfl) ?_
      refine dB (fun hz => ?_) (fun hz => ?_)
      ·
        try simp only [decide_eq_true_eq, decide_eq_false_iff_not, Bool.not_eq_true', Bool.not_eq_false', Bool.not_eq_true, Bool.not_eq_false] at hz
        have hwe : withC cs c = cs := withC_same (by omega) hq (by rw [hz]; exact before_irrefl c) hz
        refine dEnd (hK _ [(2, _), (3, _), (4, _), (5, _), (35, _)] _ _ rfl ?_)
        clear hK K
        refine W.condT rfl ?_
        refine W.sR [4] fun K hK => ?_
        refine st rfl rfl (e_loadA t30 rfl rfl (by repeat (first | exact look_same | assumption | refine look_ne (by omega) ?_ | refine look_del (by omega) ?_ | refine look_keep (by assumption) (by omega) (by simp; try omega) ?_)) rfl rfl) ?_
        refine stC rfl rfl rfl (spec_l2Own_s _ _ _ _ _ _ _ _ (by repeat (first | exact look_same | assumption | refine look_ne (by omega) ?_ | refine look_del (by omega) ?_ | refine look_keep (by assumption) (by omega) (by simp; try omega) ?_)) (by omega)) ?_
        refine stN rfl (e_storeA t30 rfl rfl (by repeat (first | exact look_same | assumption | refine look_ne (by omega) ?_ | refine look_del (by omega) ?_ | refine look_keep (by assumption) (by omega) (by simp; try omega) ?_)) rfl rfl rfl (by decide)) ?_
        refine stEnd (hK _ [(4, _)] _ _ rfl ?_)
        clear hK K
        refine W.ret ?_
        refine thenR ?_
        refine ⟨.inr rfl, Ends.v1 (μ) (by omega) (by repeat (first | exact self_old | assumption | refine set_old ?_ (by omega) | refine del_old ?_ (by omega) | refine keep_old (by assumption) ?_ (by omega) (by simp; try omega))) hfresh (by repeat (first | exact look_same | assumption | refine look_ne (by omega) ?_ | refine look_del (by omega) ?_ | refine look_keep (by assumption) (by omega) (by simp; try omega) ?_)) ?_ (by first | exact flat_plain _ | exact ints_plain _) (by simp [ltT, ltA, ltC, ltV]; try omega) (res1 (resC t30 rfl rfl (by repeat (first | exact look_same | assumption | refine look_ne (by omega) ?_ | refine look_del (by omega) ?_ | refine look_keep (by assumption) (by omega) (by simp; try omega) ?_)) rfl rfl) rfl) ?_⟩
        · rw [hwe]
        · simp [renT, renV, renC, renA, one, hwe]
      ·
        try simp only [decide_eq_true_eq, decide_eq_false_iff_not, Bool.not_eq_true', Bool.not_eq_false', Bool.not_eq_true, Bool.not_eq_false] at hz
        have h3 : k = cs.length ∨ ¬ at3 cs k = c := .inr hz
        refine dEnd (hK _ [(2, _), (3, _), (4, _), (5, _), (35, _)] _ _ rfl ?_)
        clear hK K
        refine W.condF rfl ?_
        refine W.skip ?_
        refine thenN ?_
        refine W.sD [4] [0, 0, 0, 4, 0, 28, 62, 0, 128, 510, 0, 1024, 0, 7168, 16382, 32767, 65535] (by kernel_rfl) (by kernel_rfl) fun K hK => ?_
        refine dL rfl rfl rfl (by omega) (accB_ok rfl) (e_loadA t30 rfl rfl (by repeat (first | exact look_same | assumption | refine look_ne (by omega) ?_ | refine look_del (by omega) ?_ | refine look_keep (by assumption) (by omega) (by simp; try omega) ?_)) rfl rfl) ?_
        refine dN rfl rfl rfl (e_buildSlice rfl rfl (bsl22_0)) ?_
        refine dP rfl rfl rfl (e_fieldAddr t30 t22 rfl rfl) ?_
        refine dL rfl rfl rfl (by omega) (by repeat (first | exact trivial | refine And.intro (Or.inl rfl) ?_ | refine And.intro (Or.inr trivial) ?_ | refine And.intro (Or.inr (And.intro (Or.inl (by omega)) (by first | (simp; done) | (simp; omega)))) ?_ | refine And.intro (Or.inr (And.intro (Or.inr (by omega)) (by first | (simp; done) | (simp; omega)))) ?_ | refine And.intro (Or.inr (by simp [compat]; try omega)) ?_)) (e_load1 t22 rfl rfl (by repeat (first | exact look_same | assumption | refine look_ne (by omega) ?_ | refine look_del (by omega) ?_ | refine look_keep (by assumption) (by omega) (by simp; try omega) ?_)) rfl) ?_
        refine dP rfl rfl rfl (e_move rfl) ?_
        refine dP rfl rfl rfl (e_sliceHi (k) t22 t25 rfl rfl rfl (by omega)) ?_
        refine dA rfl rfl rfl rfl (app_any t22 t22 t25 rfl rfl (by repeat (first | exact look_same | assumption | refine look_ne (by omega) ?_ | refine look_del (by omega) ?_ | refine look_keep (by assumption) (by omega) (by simp; try omega) ?_ | refine look_hide (by omega) (by first | exact List.not_mem_nil | (simp [hidden, Nat.testBit]; done) | (simp [hidden, Nat.testBit]; omega)) ?_)) (take_subHi (by repeat (first | exact look_same | assumption | refine look_ne (by omega) ?_ | refine look_del (by omega) ?_ | refine look_keep (by assumption) (by omega) (by simp; try omega) ?_ | refine look_hide (by omega) (by first | exact List.not_mem_nil | (simp [hidden, Nat.testBit]; done) | (simp [hidden, Nat.testBit]; omega)) ?_)) hk) (by decide) (by first | rfl | (simp [flat_length]; done) | (simp [flat_length]; omega)) (by first | rfl | (simp [flat_length]; done) | (simp [flat_length]; omega)) (by omega) (by omega)) (by omega) (by first | exact List.not_mem_nil | (simp [hidden, Nat.testBit]; done) | (simp [hidden, Nat.testBit]; omega)) (by first | exact List.not_mem_nil | (simp [hidden, Nat.testBit]; done) | (simp [hidden, Nat.testBit]; omega)) (fun n' => (by repeat (first | exact trivial | refine And.intro (Or.inl rfl) ?_ | refine And.intro (Or.inr trivial) ?_ | refine And.intro (Or.inr (And.intro (Or.inl (by omega)) (by first | (simp; done) | (simp; omega)))) ?_ | refine And.intro (Or.inr (And.intro (Or.inr (by omega)) (by first | (simp; done) | (simp; omega)))) ?_ | refine And.intro (Or.inr (by simp [compat]; try omega)) ?_))) (fun p1 G1 n1 hp1 hk1 hn1 hl1 hb1 => ?_)
        refine dL rfl rfl rfl (by omega) (by repeat (first | exact trivial | refine And.intro (Or.inl rfl) ?_ | refine And.intro (Or.inr trivial) ?_ | refine And.intro (Or.inr (And.intro (Or.inl (by omega)) (by first | (simp; done) | (simp; omega)))) ?_ | refine And.intro (Or.inr (And.intro (Or.inr (by omega)) (by first | (simp; done) | (simp; omega)))) ?_ | refine And.intro (Or.inr (by simp [compat]; try omega)) ?_)) (e_loadA t25 rfl rfl (by repeat (first | exact look_same | assumption | refine look_ne (by omega) ?_ | refine look_del (by omega) ?_ | refine look_keep (by assumption) (by omega) (by simp; try omega) ?_)) rfl rfl) ?_
        refine dN rfl rfl rfl (e_buildSlice rfl rfl (bsl22_1)) ?_
        refine dA rfl rfl rfl rfl (app_any t22 t22 t25 rfl rfl (by repeat (first | exact look_same | assumption | refine look_ne (by omega) ?_ | refine look_del (by omega) ?_ | refine look_keep (by assumption) (by omega) (by simp; try omega) ?_ | refine look_hide (by omega) (by first | exact List.not_mem_nil | (simp [hidden, Nat.testBit]; done) | (simp [hidden, Nat.testBit]; omega)) ?_)) (take_row (m := 1) (by repeat (first | exact look_same | assumption | refine look_ne (by omega) ?_ | refine look_del (by omega) ?_ | refine look_keep (by assumption) (by omega) (by simp; try omega) ?_ | refine look_hide (by omega) (by first | exact List.not_mem_nil | (simp [hidden, Nat.testBit]; done) | (simp [hidden, Nat.testBit]; omega)) ?_)) rfl) (by decide) (by first | rfl | (simp [flat_length]; done) | (simp [flat_length]; omega)) (by first | rfl | (simp [flat_length]; done) | (simp [flat_length]; omega)) (by omega) (by omega)) (by omega) (by first | exact List.not_mem_nil | (simp [hidden, Nat.testBit]; done) | (simp [hidden, Nat.testBit]; omega)) (by first | exact List.not_mem_nil | (simp [hidden, Nat.testBit]; done) | (simp [hidden, Nat.testBit]; omega)) (fun n' => (by repeat (first | exact trivial | refine And.intro (Or.inl rfl) ?_ | refine And.intro (Or.inr trivial) ?_ | refine And.intro (Or.inr (And.intro (Or.inl (by omega)) (by first | (simp; done) | (simp; omega)))) ?_ | refine And.intro (Or.inr (And.intro (Or.inr (by omega)) (by first | (simp; done) | (simp; omega)))) ?_ | refine And.intro (Or.inr (by simp [compat]; try omega)) ?_))) (fun p2 G2 n2 hp2 hk2 hn2 hl2 hb2 => ?_)
        refine dP rfl rfl rfl (e_fieldAddr t30 t22 rfl rfl) ?_
        refine dL rfl rfl rfl (by omega) (by repeat (first | exact trivial | refine And.intro (Or.inl rfl) ?_ | refine And.intro (Or.inr trivial) ?_ | refine And.intro (Or.inr (And.intro (Or.inl (by omega)) (by first | (simp; done) | (simp; omega)))) ?_ | refine And.intro (Or.inr (And.intro (Or.inr (by omega)) (by first | (simp; done) | (simp; omega)))) ?_ | refine And.intro (Or.inr (by simp [compat]; try omega)) ?_)) (e_load1 t22 rfl rfl (by repeat (first | exact look_same | assumption | refine look_ne (by omega) ?_ | refine look_del (by omega) ?_ | refine look_keep (by assumption) (by omega) (by simp; try omega) ?_)) rfl) ?_
        refine dP rfl rfl rfl (e_move rfl) ?_
        refine dP rfl rfl rfl (e_sliceLo (k) t22 t25 rfl rfl rfl (by omega)) ?_
        refine dA rfl rfl rfl rfl (app_any t22 t22 t25 rfl rfl (by repeat (first | exact look_same | assumption | refine look_ne (by omega) ?_ | refine look_del (by omega) ?_ | refine look_keep (by assumption) (by omega) (by simp; try omega) ?_ | refine look_hide (by omega) (by first | exact List.not_mem_nil | (simp [hidden, Nat.testBit]; done) | (simp [hidden, Nat.testBit]; omega)) ?_)) (take_subLo (by repeat (first | exact look_same | assumption | refine look_ne (by omega) ?_ | refine look_del (by omega) ?_ | refine look_keep (by assumption) (by omega) (by simp; try omega) ?_ | refine look_hide (by omega) (by first | exact List.not_mem_nil | (simp [hidden, Nat.testBit]; done) | (simp [hidden, Nat.testBit]; omega)) ?_)) rfl hk) (by decide) (by first | rfl | (simp [flat_length]; done) | (simp [flat_length]; omega)) (by first | rfl | (simp [flat_length]; done) | (simp [flat_length]; omega)) (by omega) (by omega)) (by omega) (by first | exact List.not_mem_nil | (simp [hidden, Nat.testBit]; done) | (simp [hidden, Nat.testBit]; omega)) (by first | exact List.not_mem_nil | (simp [hidden, Nat.testBit]; done) | (simp [hidden, Nat.testBit]; omega)) (fun n' => (by repeat (first | exact trivial | refine And.intro (Or.inl rfl) ?_ | refine And.intro (Or.inr trivial) ?_ | refine And.intro (Or.inr (And.intro (Or.inl (by omega)) (by first | (simp; done) | (simp; omega)))) ?_ | refine And.intro (Or.inr (And.intro (Or.inr (by omega)) (by first | (simp; done) | (simp; omega)))) ?_ | refine And.intro (Or.inr (by simp [compat]; try omega)) ?_))) (fun p9 G9 n9 hp9 hk9 hn9 hl9 hb9 => ?_)
        refine dC rfl rfl rfl rfl (spec_l2Made_s _ _ _ _ _ _ _ _ (by omega)) (accB_ok rfl) ?_
        refine dSt rfl rfl (e_storeA t30 rfl rfl (by repeat (first | exact look_same | assumption | refine look_ne (by omega) ?_ | refine look_del (by omega) ?_ | refine look_keep (by assumption) (by omega) (by simp; try omega) ?_ | refine look_hide (by omega) (by first | exact List.not_mem_nil | (simp [hidden, Nat.testBit]; done) | (simp [hidden, Nat.testBit]; omega)) ?_)) rfl rfl rfl (by decide)) (by omega) (by first | exact List.not_mem_nil | (simp [hidden, Nat.testBit]; done) | (simp [hidden, Nat.testBit]; omega)) (accB_ok rfl) ?_
        refine dEnd (hK _ [(4, _)] _ _ rfl ?_)
        clear hK K
        refine W.ret ?_
        refine ⟨.inr rfl, Ends.v1 (p9) (by omega) (by repeat (first | exact self_old | assumption | refine set_old ?_ (by omega) | refine del_old ?_ (by omega) | refine keep_old (by assumption) ?_ (by omega) (by simp; try omega))) hfresh (by repeat (first | exact look_same | assumption | refine look_ne (by omega) ?_ | refine look_del (by omega) ?_ | refine look_keep (by assumption) (by omega) (by simp; try omega) ?_)) ?_ (by first | exact flat_plain _ | exact ints_plain _) (by simp [ltT, ltA, ltC, ltV]; try omega) (res1 (resC t30 rfl rfl (by repeat (first | exact look_same | assumption | refine look_ne (by omega) ?_ | refine look_del (by omega) ?_ | refine look_keep (by assumption) (by omega) (by simp; try omega) ?_)) rfl rfl) rfl) ?_⟩
        · (rw [withC_new hk hq h2 h3]; simp [flat_append, flat])
        · (rw [withC_new hk hq h2 h3]; simp [renT, renV, renC, renA, one]; omega)
    ·
      try simp only [decide_eq_true_eq, decide_eq_false_iff_not, Bool.not_eq_true', Bool.not_eq_false', Bool.not_eq_true, Bool.not_eq_false] at hu
      have h3 : k = cs.length ∨ ¬ at3 cs k = c := .inl (by omega)
      refine dS rfl rfl ?_
      refine dS rfl rfl ?_
      refine dS rfl rfl ?_
      refine dS rfl rfl ?_
      refine dS rfl rfl ?_
      refine dS rfl rfl ?_
      refine dS rfl rfl ?_
      refine dP rfl rfl rfl (e_pickF rfl rfl) ?_
      refine dEnd (hK _ [(2, _), (3, _), (4, _), (5, _), (35, _)] _ _ rfl ?_)
      clear hK K
      refine W.condF rfl ?_
      refine W.skip ?_
      refine thenN ?_
      refine W.sD [4] [0, 0, 0, 4, 0, 28, 62, 0, 128, 510, 0, 1024, 0, 7168, 16382, 32767, 65535] (by kernel_rfl) (by kernel_rfl) fun K hK => ?_
      refine dL rfl rfl rfl (by omega) (accB_ok rfl) (e_loadA t30 rfl rfl (by repeat (first | exact look_same | assumption | refine look_ne (by omega) ?_ | refine look_del (by omega) ?_ | refine look_keep (by assumption) (by omega) (by simp; try omega) ?_)) rfl rfl) ?_
      refine dN rfl rfl rfl (e_buildSlice rfl rfl (bsl22_0)) ?_
      refine dP rfl rfl rfl (e_fieldAddr t30 t22 rfl rfl) ?_
      refine dL rfl rfl rfl (by omega) (by repeat (first | exact trivial | refine And.intro (Or.inl rfl) ?_ | refine And.intro (Or.inr trivial) ?_ | refine And.intro (Or.inr (And.intro (Or.inl (by omega)) (by first | (simp; done) | (simp; omega)))) ?_ | refine And.intro (Or.inr (And.intro (Or.inr (by omega)) (by first | (simp; done) | (simp; omega)))) ?_ | refine And.intro (Or.inr (by simp [compat]; try omega)) ?_)) (e_load1 t22 rfl rfl (by repeat (first | exact look_same | assumption | refine look_ne (by omega) ?_ | refine look_del (by omega) ?_ | refine look_keep (by assumption) (by omega) (by simp; try omega) ?_)) rfl) ?_
      refine dP rfl rfl rfl (e_move rfl) ?_
      refine dP rfl rfl rfl (e_sliceHi (k) t22 t25 rfl rfl rfl (by omega)) ?_
      refine dA rfl rfl rfl rfl (app_any t22 t22 t25 rfl rfl (by repeat (first | exact look_same | assumption | refine look_ne (by omega) ?_ | refine look_del (by omega) ?_ | refine look_keep (by assumption) (by omega) (by simp; try omega) ?_ | refine look_hide (by omega) (by first | exact List.not_mem_nil | (simp [hidden, Nat.testBit]; done) | (simp [hidden, Nat.testBit]; omega)) ?_)) (take_subHi (by repeat (first | exact look_same | assumption | refine look_ne (by omega) ?_ | refine look_del (by omega) ?_ | refine look_keep (by assumption) (by omega) (by simp; try omega) ?_ | refine look_hide (by omega) (by first | exact List.not_mem_nil | (simp [hidden, Nat.testBit]; done) | (simp [hidden, Nat.testBit]; omega)) ?_)) hk) (by decide) (by first | rfl | (simp [flat_length]; done) | (simp [flat_length]; omega)) (by first | rfl | (simp [flat_length]; done) | (simp [flat_length]; omega)) (by omega) (by omega)) (by omega) (by first | exact List.not_mem_nil | (simp [hidden, Nat.testBit]; done) | (simp [hidden, Nat.testBit]; omega)) (by first | exact List.not_mem_nil | (simp [hidden, Nat.testBit]; done) | (simp [hidden, Nat.testBit]; omega)) (fun n' => (by repeat (first | exact trivial | refine And.intro (Or.inl rfl) ?_ | refine And.intro (Or.inr trivial) ?_ | refine And.intro (Or.inr (And.intro (Or.inl (by omega)) (by first | (simp; done) | (simp; omega)))) ?_ | refine And.intro (Or.inr (And.intro (Or.inr (by omega)) (by first | (simp; done) | (simp; omega)))) ?_ | refine And.intro (Or.inr (by simp [compat]; try omega)) ?_))) (fun p1 G1 n1 hp1 hk1 hn1 hl1 hb1 => ?_)
      refine dL rfl rfl rfl (by omega) (by repeat (first | exact trivial | refine And.intro (Or.inl rfl) ?_ | refine And.intro (Or.inr trivial) ?_ | refine And.intro (Or.inr (And.intro (Or.inl (by omega)) (by first | (simp; done) | (simp; omega)))) ?_ | refine And.intro (Or.inr (And.intro (Or.inr (by omega)) (by first | (simp; done) | (simp; omega)))) ?_ | refine And.intro (Or.inr (by simp [compat]; try omega)) ?_)) (e_loadA t25 rfl rfl (by repeat (first | exact look_same | assumption | refine look_ne (by omega) ?_ | refine look_del (by omega) ?_ | refine look_keep (by assumption) (by omega) (by simp; try omega) ?_)) rfl rfl) ?_
      refine dN rfl rfl rfl (e_buildSlice rfl rfl (bsl22_1)) ?_
      refine dA rfl rfl rfl rfl (app_any t22 t22 t25 rfl rfl (by repeat (first | exact look_same | assumption | refine look_ne (by omega) ?_ | refine look_del (by omega) ?_ | refine look_keep (by assumption) (by omega) (by simp; try omega) ?_ | refine look_hide (by omega) (by first | exact List.not_mem_nil | (simp [hidden, Nat.testBit]; done) | (simp [hidden, Nat.testBit]; omega)) ?_)) (take_row (m := 1) (by repeat (first | exact look_same | assumption | refine look_ne (by omega) ?_ | refine look_del (by omega) ?_ | refine look_keep (by assumption) (by omega) (by simp; try omega) ?_ | refine look_hide (by omega) (by first | exact List.not_mem_nil | (simp [hidden, Nat.testBit]; done) | (simp [hidden, Nat.testBit]; omega)) ?_)) rfl) (by decide) (by first | rfl | (simp [flat_length]; done) | (simp [flat_length]; omega)) (by first | rfl | (simp [flat_length]; done) | (simp [flat_length]; omega)) (by omega) (by omega)) (by omega) (by first | exact List.not_mem_nil | (simp [hidden, Nat.testBit]; done) | (simp [hidden, Nat.testBit]; omega)) (by first | exact List.not_mem_nil | (simp [hidden, Nat.testBit]; done) | (simp [hidden, Nat.testBit]; omega)) (fun n' => (by repeat (first | exact trivial | refine And.intro (Or.inl rfl) ?_ | refine And.intro (Or.inr trivial) ?_ | refine And.intro (Or.inr (And.intro (Or.inl (by omega)) (by first | (simp; done) | (simp; omega)))) ?_ | refine And.intro (Or.inr (And.intro (Or.inr (by omega)) (by first | (simp; done) | (simp; omega)))) ?_ | refine And.intro (Or.inr (by simp [compat]; try omega)) ?_))) (fun p2 G2 n2 hp2 hk2 hn2 hl2 hb2 => ?_)
      refine dP rfl rfl rfl (e_fieldAddr t30 t22 rfl rfl) ?_
      refine dL rfl rfl rfl (by omega) (by repeat (first | exact trivial | refine And.intro (Or.inl rfl) ?_ | refine And.intro (Or.inr trivial) ?_ | refine And.intro (Or.inr (And.intro (Or.inl (by omega)) (by first | (simp; done) | (simp; omega)))) ?_ | refine And.intro (Or.inr (And.intro (Or.inr (by omega)) (by first | (simp; done) | (simp; omega)))) ?_ | refine And.intro (Or.inr (by simp [compat]; try omega)) ?_)) (e_load1 t22 rfl rfl (by repeat (first | exact look_same | assumption | refine look_ne (by omega) ?_ | refine look_del (by omega) ?_ | refine look_keep (by assumption) (by omega) (by simp; try omega) ?_)) rfl) ?_
      refine dP rfl rfl rfl (e_move rfl) ?_
      refine dP rfl rfl rfl (e_sliceLo (k) t22 t25 rfl rfl rfl (by omega)) ?_
      refine dA rfl rfl rfl rfl (app_any t22 t22 t25 rfl rfl (by repeat (first | exact look_same | assumption | refine look_ne (by omega) ?_ | refine look_del (by omega) ?_ | refine look_keep (by assumption) (by omega) (by simp; try omega) ?_ | refine look_hide (by omega) (by first | exact List.not_mem_nil | (simp [hidden, Nat.testBit]; done) | (simp [hidden, Nat.testBit]; omega)) ?_)) (take_subLo (by repeat (first | exact look_same | assumption | refine look_ne (by omega) ?_ | refine look_del (by omega) ?_ | refine look_keep (by assumption) (by omega) (by simp; try omega) ?_ | refine look_hide (by omega) (by first | exact List.not_mem_nil | (simp [hidden, Nat.testBit]; done) | (simp [hidden, Nat.testBit]; omega)) ?_)) rfl hk) (by decide) (by first | rfl | (simp [flat_length]; done) | (simp [flat_length]; omega)) (by first | rfl | (simp [flat_length]; done) | (simp [flat_length]; omega)) (by omega) (by omega)) (by omega) (by first | exact List.not_mem_nil | (simp [hidden, Nat.testBit]; done) | (simp [hidden, Nat.testBit]; omega)) (by first | exact List.not_mem_nil | (simp [hidden, Nat.testBit]; done) | (simp [hidden, Nat.testBit]; omega)) (fun n' => (by repeat (first | exact trivial | refine And.intro (Or.inl rfl) ?_ | refine And.intro (Or.inr trivial) ?_ | refine And.intro (Or.inr (And.intro (Or.inl (by omega)) (by first | (simp; done) | (simp; omega)))) ?_ | refine And.intro (Or.inr (And.intro (Or.inr (by omega)) (by first | (simp; done) | (simp; omega)))) ?_ | refine And.intro (Or.inr (by simp [compat]; try omega)) ?_))) (fun p9 G9 n9 hp9 hk9 hn9 hl9 hb9 => ?_)
      refine dC rfl rfl rfl rfl (spec_l2Made_s _ _ _ _ _ _ _ _ (by omega)) (accB_ok rfl) ?_
      refine dSt rfl rfl (e_storeA t30 rfl rfl (by repeat (first | exact look_same | assumption | refine look_ne (by omega) ?_ | refine look_del (by omega) ?_ | refine look_keep (by assumption) (by omega) (by simp; try omega) ?_ | refine look_hide (by omega) (by first | exact List.not_mem_nil | (simp [hidden, Nat.testBit]; done) | (simp [hidden, Nat.testBit]; omega)) ?_)) rfl rfl rfl (by decide)) (by omega) (by first | exact List.not_mem_nil | (simp [hidden, Nat.testBit]; done) | (simp [hidden, Nat.testBit]; omega)) (accB_ok rfl) ?_
      refine dEnd (hK _ [(4, _)] _ _ rfl ?_)
      clear hK K
      refine W.ret ?_
      refine ⟨.inr rfl, Ends.v1 (p9) (by omega) (by repeat (first | exact self_old | assumption | refine set_old ?_ (by omega) | refine del_old ?_ (by omega) | refine keep_old (by assumption) ?_ (by omega) (by simp; try omega))) hfresh (by repeat (first | exact look_same | assumption | refine look_ne (by omega) ?_ | refine look_del (by omega) ?_ | refine look_keep (by assumption) (by omega) (by simp; try omega) ?_)) ?_ (by first | exact flat_plain _ | exact ints_plain _) (by simp [ltT, ltA, ltC, ltV]; try omega) (res1 (resC t30 rfl rfl (by repeat (first | exact look_same | assumption | refine look_ne (by omega) ?_ | refine look_del (by omega) ?_ | refine look_keep (by assumption) (by omega) (by simp; try omega) ?_)) rfl rfl) rfl) ?_⟩
      · (rw [withC_new hk hq h2 h3]; simp [flat_append, flat])
      · (rw [withC_new hk hq h2 h3]; simp [renT, renV, renC, renA, one]; omega)
theorem bld25_ : cBuild Try.prog 25 [] = some (.agg #[.int .i64 0, .int .i64 0, .int .i64 0]) := by
  simp [cBuild, t25, t3, fieldsOk, placesC, fillC, konst0, putC]
theorem spec_l8Made_s (X Y Z : Int) (b : Nat) (ro : Bool) (cs : List C) (e : C × C) (H : Heap) (n : Nat) (hb : H b = some (.cells ro (flat cs))) (hlen : cs.length ≤ 1048576) (hv : Valid X Y Z cs) (ht : Turn e) : Fn Try.prog 92 [.agg #[.int .i64 X, .int .i64 Y, .int .i64 Z, .slice (some ⟨b, 0, none⟩) cs.length 3], .agg #[.int .i64 e.1.1, .int .i64 e.1.2.1, .int .i64 e.1.2.2, .int .i64 e.2.1, .int .i64 e.2.2.1, .int .i64 e.2.2.2]] H n (.agg #[.int .i64 (tS e.1 (X, Y, Z)).1, .int .i64 (tS e.1 (X, Y, Z)).2.1, .int .i64 (tS e.1 (X, Y, Z)).2.2, .slice (some ⟨n, 0, none⟩) (cellsOf (tS e.1 (X, Y, Z)).1 (tS e.1 (X, Y, Z)).2.1 (tS e.1 (X, Y, Z)).2.2 (mask (tS e.1 (X, Y, Z)).2.1 (tS e.1 (X, Y, Z)).2.2 (cs.map (tC e.1 e.2 (tS e.1 (X, Y, Z)))))).length 3]) (H.set n (.cells false (flat (cellsOf (tS e.1 (X, Y, Z)).1 (tS e.1 (X, Y, Z)).2.1 (tS e.1 (X, Y, Z)).2.2 (mask (tS e.1 (X, Y, Z)).2.1 (tS e.1 (X, Y, Z)).2.2 (cs.map (tC e.1 e.2 (tS e.1 (X, Y, Z))))))))) (n + 1) := by
  refine Fn.intro' Try.func92 rfl (by kernel_rfl) Try.ntmps92 (by simp) (by omega) fun hfresh => ?_
  have lt_hb := lt_fresh hfresh hb
  have hX := hv.box
  have hbx := tS_box hX e.1
  obtain ⟨a0, a1, a2, b0, b1, b2⟩ := turn_nat ht
  show W _ _ _ ⟨[(0, _), (1, _)], _, _⟩ _
  refine W.sR [2, 3, 4] fun K hK => ?_
  refine st rfl rfl (e_boxA rfl) ?_
  refine st rfl rfl (e_boxA rfl) ?_
  refine st rfl rfl (e_alloc t30 rfl) ?_
  refine stEnd (hK _ [(2, _), (3, _), (4, _)] _ _ rfl ?_)
  clear hK K
  refine W.sD [2, 3, 4, 5] [0, 0, 2, 6, 15, 0, 0, 64, 192, 511, 0, 0, 2048, 6144, 16383, 32767, 0, 131071] (by kernel_rfl) (by kernel_rfl) fun K hK => ?_
  refine dL rfl rfl rfl (by omega) (accB_ok rfl) (e_loadA t30 rfl rfl (by repeat (first | exact look_same | assumption | refine look_ne (by omega) ?_ | refine look_keep (by assumption) (by omega) (by simp; try omega) ?_)) rfl rfl) ?_
  refine dP rfl rfl rfl (e_fieldAddr t98 t25 rfl rfl) ?_
  refine dP rfl rfl rfl (e_idxAK (0) t25 t3 rfl rfl (by first | rfl | omega) (by first | omega | decide)) ?_
  refine dL rfl rfl rfl (by omega) (accB_ok rfl) (e_load1 t3 rfl rfl (by repeat (first | exact look_same | assumption | refine look_ne (by omega) ?_ | refine look_keep (by assumption) (by omega) (by simp; try omega) ?_)) (by first | rfl | exact ints_at (by omega) | exact tri_getL (by omega) | exact (flat_get (by omega) (by omega)).trans rfl | exact flat_getJ (by omega) (by omega))) ?_
  refine dC rfl rfl rfl rfl (spec_l2Long_i_s _ _ _ _ _ (ci e.1 0).toNat _ _ a0 b0) (accB_ok rfl) ?_
  refine dL rfl rfl rfl (by omega) (by repeat (first | exact trivial | refine And.intro (Or.inl rfl) ?_ | refine And.intro (Or.inr trivial) ?_ | refine And.intro (Or.inr (And.intro (Or.inl (by omega)) (by first | (simp; done) | (simp; omega)))) ?_ | refine And.intro (Or.inr (And.intro (Or.inr (by omega)) (by first | (simp; done) | (simp; omega)))) ?_ | refine And.intro (Or.inr (by simp [compat]; try omega)) ?_)) (e_loadA t30 rfl rfl (by repeat (first | exact look_same | assumption | refine look_ne (by omega) ?_ | refine look_keep (by assumption) (by omega) (by simp; try omega) ?_)) rfl rfl) ?_
  refine dP rfl rfl rfl (e_fieldAddr t98 t25 rfl rfl) ?_
  refine dP rfl rfl rfl (e_idxAK (1) t25 t3 rfl rfl (by first | rfl | omega) (by first | omega | decide)) ?_
  refine dL rfl rfl rfl (by omega) (by repeat (first | exact trivial | refine And.intro (Or.inl rfl) ?_ | refine And.intro (Or.inr trivial) ?_ | refine And.intro (Or.inr (And.intro (Or.inl (by omega)) (by first | (simp; done) | (simp; omega)))) ?_ | refine And.intro (Or.inr (And.intro (Or.inr (by omega)) (by first | (simp; done) | (simp; omega)))) ?_ | refine And.intro (Or.inr (by simp [compat]; try omega)) ?_)) (e_load1 t3 rfl rfl (by repeat (first | exact look_same | assumption | refine look_ne (by omega) ?_ | refine look_keep (by assumption) (by omega) (by simp; try omega) ?_)) (by first | rfl | exact ints_at (by omega) | exact tri_getL (by omega) | exact (flat_get (by omega) (by omega)).trans rfl | exact flat_getJ (by omega) (by omega))) ?_
  refine dC rfl rfl rfl rfl (spec_l2Long_i_s _ _ _ _ _ (ci e.1 1).toNat _ _ a1 b1) (accB_ok rfl) ?_
  refine dL rfl rfl rfl (by omega) (by repeat (first | exact trivial | refine And.intro (Or.inl rfl) ?_ | refine And.intro (Or.inr trivial) ?_ | refine And.intro (Or.inr (And.intro (Or.inl (by omega)) (by first | (simp; done) | (simp; omega)))) ?_ | refine And.intro (Or.inr (And.intro (Or.inr (by omega)) (by first | (simp; done) | (simp; omega)))) ?_ | refine And.intro (Or.inr (by simp [compat]; try omega)) ?_)) (e_loadA t30 rfl rfl (by repeat (first | exact look_same | assumption | refine look_ne (by omega) ?_ | refine look_keep (by assumption) (by omega) (by simp; try omega) ?_)) rfl rfl) ?_
  refine dP rfl rfl rfl (e_fieldAddr t98 t25 rfl rfl) ?_
  refine dP rfl rfl rfl (e_idxAK (2) t25 t3 rfl rfl (by first | rfl | omega) (by first | omega | decide)) ?_
  refine dL rfl rfl rfl (by omega) (by repeat (first | exact trivial | refine And.intro (Or.inl rfl) ?_ | refine And.intro (Or.inr trivial) ?_ | refine And.intro (Or.inr (And.intro (Or.inl (by omega)) (by first | (simp; done) | (simp; omega)))) ?_ | refine And.intro (Or.inr (And.intro (Or.inr (by omega)) (by first | (simp; done) | (simp; omega)))) ?_ | refine And.intro (Or.inr (by simp [compat]; try omega)) ?_)) (e_load1 t3 rfl rfl (by repeat (first | exact look_same | assumption | refine look_ne (by omega) ?_ | refine look_keep (by assumption) (by omega) (by simp; try omega) ?_)) (by first | rfl | exact ints_at (by omega) | exact tri_getL (by omega) | exact (flat_get (by omega) (by omega)).trans rfl | exact flat_getJ (by omega) (by omega))) ?_
  refine dC rfl rfl rfl rfl (spec_l2Long_i_s _ _ _ _ _ (ci e.1 2).toNat _ _ a2 b2) (accB_ok rfl) ?_
  refine dC1 rfl rfl rfl rfl (spec_l2Empty_s _ _ _ _ _ ) (accB_ok rfl) (by first | exact List.not_mem_nil | (simp [hidden, Nat.testBit]; done) | (simp [hidden, Nat.testBit]; omega)) ?_
  refine dN rfl rfl rfl (e_alloc t30 rfl) ?_
  refine dSt rfl rfl (e_storeA t30 rfl rfl (by repeat (first | exact look_same | assumption | refine look_ne (by omega) ?_ | refine look_keep (by assumption) (by omega) (by simp; try omega) ?_ | refine look_hide (by omega) (by first | exact List.not_mem_nil | (simp [hidden, Nat.testBit]; done) | (simp [hidden, Nat.testBit]; omega)) ?_)) rfl rfl rfl (by decide)) (by omega) (by first | exact List.not_mem_nil | (simp [hidden, Nat.testBit]; done) | (simp [hidden, Nat.testBit]; omega)) (accB_ok rfl) ?_
  refine dEnd (hK _ [(2, _), (3, _), (4, _), (5, _)] _ _ rfl ?_)
  clear hK K
  refine W.seq ?_
  refine W.sR [2, 3, 4, 5, 6] fun K hK => ?_
  refine st rfl rfl (e_assign rfl) ?_
  refine stEnd (hK _ [(2, _), (3, _), (4, _), (5, _), (6, _)] _ _ rfl ?_)
  clear hK K
  refine W.block ?_
  refine W.ord [6, 2, 3, 4, 5] (ts' := [(6, _)] ++ [(2, _), (3, _), (4, _), (5, _)]) rfl ?_
  refine W.loopC [(6, _)] [n + 1 + 1 + 1 + 1] (fun κ V G0 μ0 => ∃ i v : Nat, V = [(6, .int .i64 (i : Nat))] ∧ κ = cs.length - i ∧ (i ≤ cs.length) ∧ ((v = n + 1 + 1 + 1 ∨ n + 1 + 1 + 1 + 1 + 1 ≤ v) ∧ v < μ0) ∧ (G0 (n + 1 + 1 + 1 + 1) = some (.cells false [.int .i64 (tS e.1 (X, Y, Z)).1, .int .i64 (tS e.1 (X, Y, Z)).2.1, .int .i64 (tS e.1 (X, Y, Z)).2.2, .slice (some ⟨v, 0, none⟩) (withN (tC e.1 e.2 (tS e.1 (X, Y, Z))) cs i).length 3])) ∧ (G0 v = some (.cells false (flat (withN (tC e.1 e.2 (tS e.1 (X, Y, Z))) cs i))))) _ ⟨0, n + 1 + 1 + 1, rfl, rfl, (by first | omega | assumption | rfl | simp_all), (by omega), look_same, (by repeat (first | exact look_same | assumption | refine look_ne (by omega) ?_ | refine look_keep (by assumption) (by omega) (by simp; try omega) ?_))⟩ fun κ V G0 μ0 hinv hμ0 hkeep0 hfr0 => ?_
  obtain ⟨i, v, rfl, rfl, hi, hr, hG, hG2⟩ := hinv
  refine W.seq ?_
  refine W.sR [2, 3, 4, 5, 6, 29] fun K hK => ?_
  refine st rfl rfl (e_move rfl) ?_
  refine st rfl rfl (e_fieldAddr t30 t22 rfl rfl) ?_
  refine st rfl rfl (e_load1 t22 rfl rfl (by repeat (first | exact look_same | assumption | refine look_ne (by omega) ?_ | refine look_keep (by assumption) (by omega) (by simp; try omega) ?_)) rfl) ?_
  refine st rfl rfl (e_len t22 rfl) ?_
  refine st rfl rfl (e_lss rfl rfl) ?_
  refine stB (fun hb1 => ?_) (fun hb1 => ?_)
  ·
    try simp only [decide_eq_true_eq, decide_eq_false_iff_not, Bool.not_eq_true', Bool.not_eq_false', Bool.not_eq_true, Bool.not_eq_false] at hb1
    refine stEnd (hK _ [(2, _), (3, _), (4, _), (5, _), (6, _), (29, _)] _ _ rfl ?_)
    clear hK K
    refine W.condT rfl ?_
    refine W.skip ?_
    refine thenN ?_
    refine W.seq ?_
    refine W.block ?_
    have hcc := (hv.inn _ (at3_mem (show i < cs.length by omega))).small hX
    simp only [Small] at hcc
    refine W.sR [2, 3, 4, 5, 6, 7] fun K hK => ?_
    refine st rfl rfl (e_build rfl rfl (bld25_ )) ?_
    refine st rfl rfl (e_alloc t25 rfl) ?_
    refine stN rfl (e_storeA t25 rfl rfl (by repeat (first | exact look_same | assumption | refine look_ne (by omega) ?_ | refine look_keep (by assumption) (by omega) (by simp; try omega) ?_)) rfl rfl rfl (by decide)) ?_
    refine stEnd (hK _ [(2, _), (3, _), (4, _), (5, _), (6, _), (7, _)] _ _ rfl ?_)
    clear hK K
    refine W.seq ?_
    refine W.sR [2, 3, 4, 5, 6, 7, 8] fun K hK => ?_
    refine st rfl rfl (e_assign rfl) ?_
    refine stEnd (hK _ [(2, _), (3, _), (4, _), (5, _), (6, _), (7, _), (8, _)] _ _ rfl ?_)
    clear hK K
    refine W.block ?_
    refine W.ord [8, 2, 3, 4, 5, 6, 7] (ts' := [(8, _)] ++ [(2, _), (3, _), (4, _), (5, _), (6, _), (7, _)]) rfl ?_
    refine W.loopC [(8, _)] [μ0] (fun κ V G1 μ1 => ∃ k : Nat, V = [(8, .int .i64 (k : Nat))] ∧ κ = 3 - k ∧ (k ≤ 3) ∧ (G1 μ0 = some (.cells false (tri (mixC (0, 0, 0) (tC e.1 e.2 (tS e.1 (X, Y, Z)) (at3 cs i)) k))))) _ ⟨0, rfl, rfl, (by first | omega | assumption | rfl | simp_all), (by rw [mix_zero]; exact (by repeat (first | exact look_same | assumption | refine look_ne (by omega) ?_ | refine look_keep (by assumption) (by omega) (by simp; try omega) ?_)))⟩ fun κ V G1 μ1 hinv hμ1 hkeep1 hfr1 => ?_
    obtain ⟨k, rfl, rfl, hk, hG7⟩ := hinv
    refine W.seq ?_
    refine W.sR [2, 3, 4, 5, 6, 7, 8, 34] fun K hK => ?_
    refine st rfl rfl (e_move rfl) ?_
    refine st rfl rfl (e_lss rfl rfl) ?_
    refine stB (fun hb2 => ?_) (fun hb2 => ?_)
    ·
      try simp only [decide_eq_true_eq, decide_eq_false_iff_not, Bool.not_eq_true', Bool.not_eq_false', Bool.not_eq_true, Bool.not_eq_false] at hb2
      refine stEnd (hK _ [(2, _), (3, _), (4, _), (5, _), (6, _), (7, _), (8, _), (34, _)] _ _ rfl ?_)
      clear hK K
      refine W.condT rfl ?_
      refine W.skip ?_
      refine thenN ?_
      refine W.seq ?_
      refine W.block ?_
      have hko := ht.o k (by omega)
      have hk1 := sm_ci (c := (at3 cs i)) hcc (ci e.1 k).toNat
      have hcs := ciS hX (ci e.1 k).toNat
      refine W.sD [2, 3, 4, 5, 6, 7, 8] [0, 0, 2, 0, 0, 0, 48, 112, 14, 510, 1022, 2047, 4095] (by kernel_rfl) (by kernel_rfl) fun K hK => ?_
      refine dP rfl rfl rfl (e_move rfl) ?_
      refine dP rfl rfl rfl (e_fieldAddr t30 t22 rfl rfl) ?_
      refine dL rfl rfl rfl (by omega) (accB_ok rfl) (e_load1 t22 rfl rfl (by repeat (first | exact look_same | assumption | refine look_ne (by omega) ?_ | refine look_keep (by assumption) (by omega) (by simp; try omega) ?_)) rfl) ?_
      refine dP rfl rfl rfl (e_move rfl) ?_
      refine dP rfl rfl rfl (e_move rfl) ?_
      refine dP rfl rfl rfl (e_fieldAddr t98 t25 rfl rfl) ?_
      refine dP rfl rfl rfl (e_idxAK _ t25 t3 rfl rfl rfl (by first | omega | decide)) ?_
      refine dL rfl rfl rfl (by omega) (accB_ok rfl) (e_load1 t3 rfl rfl (by repeat (first | exact look_same | assumption | refine look_ne (by omega) ?_ | refine look_keep (by assumption) (by omega) (by simp; try omega) ?_)) (tri_get1 (a := e.1) (c := e.2) (by omega))) ?_
      refine dP rfl rfl rfl (e_idxSK _ t22 t25 rfl rfl rfl (by first | omega | decide)) ?_
      refine dP rfl rfl rfl (e_idxAK ((ci e.1 k).toNat) t25 t3 rfl rfl (by omega) (by omega)) ?_
      refine dL rfl rfl rfl (by omega) (accB_ok rfl) (e_load1 t3 rfl rfl (by repeat (first | exact look_same | assumption | refine look_ne (by omega) ?_ | refine look_keep (by assumption) (by omega) (by simp; try omega) ?_)) (by first | exact (flat_get (by omega) (by omega)).trans rfl | exact flat_getJ (by omega) (by omega))) ?_
      refine dP rfl rfl rfl (e_idxAK _ t25 t3 rfl rfl rfl (by first | omega | decide)) ?_
      refine dSt rfl rfl (e_store1 t3 rfl rfl rfl (by repeat (first | exact look_same | assumption | refine look_ne (by omega) ?_ | refine look_keep (by assumption) (by omega) (by simp; try omega) ?_ | refine look_hide (by omega) (by first | exact List.not_mem_nil | (simp [hidden, Nat.testBit]; done) | (simp [hidden, Nat.testBit]; omega)) ?_)) (by simp [tri]; omega)) (by omega) (by first | exact List.not_mem_nil | (simp [hidden, Nat.testBit]; done) | (simp [hidden, Nat.testBit]; omega)) (accB_ok rfl) ?_
      refine dEnd (hK _ [(2, _), (3, _), (4, _), (5, _), (6, _), (7, _), (8, _)] _ _ rfl ?_)
      clear hK K
      refine W.sR [2, 3, 4, 5, 6, 7, 8, 53] fun K hK => ?_
      refine st rfl rfl (e_move rfl) ?_
      refine st rfl rfl (e_fieldAddr t98 t25 rfl rfl) ?_
      refine st rfl rfl (e_idxAK _ t25 t3 rfl rfl rfl (by first | omega | decide)) ?_
      refine st rfl rfl (e_load1 t3 rfl rfl (by repeat (first | exact look_same | assumption | refine look_ne (by omega) ?_ | refine look_keep (by assumption) (by omega) (by simp; try omega) ?_)) (tri_get2 (a := e.1) (c := e.2) (by omega))) ?_
      refine st rfl rfl (e_eql rfl rfl) ?_
      refine stB (fun h9v => ?_) (fun h9v => ?_)
      ·
        try simp only [decide_eq_true_eq, decide_eq_false_iff_not, Bool.not_eq_true', Bool.not_eq_false', Bool.not_eq_true, Bool.not_eq_false] at h9v
        refine stEnd (hK _ [(2, _), (3, _), (4, _), (5, _), (6, _), (7, _), (8, _), (53, _)] _ _ rfl ?_)
        clear hK K
        refine W.condT rfl ?_
        refine W.rD [2, 3, 4, 5, 6, 7, 8] [0, 0, 0, 0, 12, 28, 62, 126, 0, 256, 768, 2046, 4095, 8191] (by kernel_rfl) (by kernel_rfl) fun K hK => ?_
        refine dP rfl rfl rfl (e_move rfl) ?_
        refine dL rfl rfl rfl (by omega) (accB_ok rfl) (e_loadA t30 rfl rfl (by repeat (first | exact look_same | assumption | refine look_ne (by omega) ?_ | refine look_keep (by assumption) (by omega) (by simp; try omega) ?_)) rfl rfl) ?_
        refine dP rfl rfl rfl (e_move rfl) ?_
        refine dP rfl rfl rfl (e_fieldAddr t98 t25 rfl rfl) ?_
        refine dP rfl rfl rfl (e_idxAK _ t25 t3 rfl rfl rfl (by first | omega | decide)) ?_
        refine dL rfl rfl rfl (by omega) (accB_ok rfl) (e_load1 t3 rfl rfl (by repeat (first | exact look_same | assumption | refine look_ne (by omega) ?_ | refine look_keep (by assumption) (by omega) (by simp; try omega) ?_)) (tri_get1 (a := e.1) (c := e.2) (by omega))) ?_
        refine dC rfl rfl rfl rfl (spec_l2Long_i_s _ _ _ _ _ (ci e.1 k).toNat _ _ (by omega) (by omega)) (accB_ok rfl) ?_
        refine dP rfl rfl rfl (e_sub rfl rfl (inB _ (by omega))) ?_
        refine dP rfl rfl rfl (e_move rfl) ?_
        refine dP rfl rfl rfl (e_idxAK _ t25 t3 rfl rfl rfl (by first | omega | decide)) ?_
        refine dL rfl rfl rfl (by omega) (by repeat (first | exact trivial | refine And.intro (Or.inl rfl) ?_ | refine And.intro (Or.inr trivial) ?_ | refine And.intro (Or.inr (And.intro (Or.inl (by omega)) (by first | (simp; done) | (simp; omega)))) ?_ | refine And.intro (Or.inr (And.intro (Or.inr (by omega)) (by first | (simp; done) | (simp; omega)))) ?_ | refine And.intro (Or.inr (by simp [compat]; try omega)) ?_)) (e_load1 t3 rfl rfl (by repeat (first | exact look_same | assumption | refine look_ne (by omega) ?_ | refine look_keep (by assumption) (by omega) (by simp; try omega) ?_)) (List.getElem?_set_self (by simp [tri]; omega))) ?_
        refine dP rfl rfl rfl (e_sub rfl rfl (inB _ (by omega))) ?_
        refine dP rfl rfl rfl (e_idxAK _ t25 t3 rfl rfl rfl (by first | omega | decide)) ?_
        refine dSt rfl rfl (e_store1 t3 rfl rfl rfl (by repeat (first | exact look_same | assumption | refine look_ne (by omega) ?_ | refine look_keep (by assumption) (by omega) (by simp; try omega) ?_ | refine look_hide (by omega) (by first | exact List.not_mem_nil | (simp [hidden, Nat.testBit]; done) | (simp [hidden, Nat.testBit]; omega)) ?_)) (by rw [List.length_set]; simp [tri]; omega)) (by omega) (by first | exact List.not_mem_nil | (simp [hidden, Nat.testBit]; done) | (simp [hidden, Nat.testBit]; omega)) (accB_ok rfl) ?_
        refine dEnd (hK _ [(2, _), (3, _), (4, _), (5, _), (6, _), (7, _), (8, _)] _ _ rfl ?_)
        clear hK K
        refine blockN ?_
        refine thenN ?_
        refine W.rR [8, 2, 3, 4, 5, 6, 7] fun K hK => ?_
        refine st rfl rfl (e_move rfl) ?_
        refine st rfl rfl (e_add rfl rfl (inB _ (by omega))) ?_
        refine st rfl rfl (e_assign rfl) ?_
        refine stEnd (hK _ [(8, _), (2, _), (3, _), (4, _), (5, _), (6, _), (7, _)] _ _ rfl ?_)
        clear hK K
        exact roundN (V' := [(8, _)]) [8, 2, 3, 4, 5, 6, 7] rfl (by omega) (by repeat (first | exact Keeps.refl _ _ _ | assumption | refine Keeps.trans ?_ (by assumption) (by omega) (by simp; try omega) | refine Keeps.set ?_ (by first | exact Or.inl (by omega) | (simp; done) | (simp; omega)) | refine Keeps.del ?_ (by first | exact Or.inl (by omega) | (simp; done) | (simp; omega)) | refine Keeps.delO2 ?_ (by omega))) _ (by omega) ⟨k + 1, rfl, rfl, (by first | omega | assumption | simp_all), (look_same.trans (congrArg some (congrArg (Blk.cells false) (mix_at2 (by omega) (by rw [ci_tC _ _ _ _ (by omega), ← tK_1 h9v, ci_tS _ _ (by omega)])))))⟩
      ·
        try simp only [decide_eq_true_eq, decide_eq_false_iff_not, Bool.not_eq_true', Bool.not_eq_false', Bool.not_eq_true, Bool.not_eq_false] at h9v
        refine stEnd (hK _ [(2, _), (3, _), (4, _), (5, _), (6, _), (7, _), (8, _), (53, _)] _ _ rfl ?_)
        clear hK K
        refine W.condF rfl ?_
        refine W.skip ?_
        refine blockN ?_
        refine thenN ?_
        refine W.rR [8, 2, 3, 4, 5, 6, 7] fun K hK => ?_
        refine st rfl rfl (e_move rfl) ?_
        refine st rfl rfl (e_add rfl rfl (inB _ (by omega))) ?_
        refine st rfl rfl (e_assign rfl) ?_
        refine stEnd (hK _ [(8, _), (2, _), (3, _), (4, _), (5, _), (6, _), (7, _)] _ _ rfl ?_)
        clear hK K
        exact roundN (V' := [(8, _)]) [8, 2, 3, 4, 5, 6, 7] rfl (by omega) (by repeat (first | exact Keeps.refl _ _ _ | assumption | refine Keeps.trans ?_ (by assumption) (by omega) (by simp; try omega) | refine Keeps.set ?_ (by first | exact Or.inl (by omega) | (simp; done) | (simp; omega)) | refine Keeps.del ?_ (by first | exact Or.inl (by omega) | (simp; done) | (simp; omega)) | refine Keeps.delO2 ?_ (by omega))) _ (by omega) ⟨k + 1, rfl, rfl, (by first | omega | assumption | simp_all), (look_same.trans (congrArg some (congrArg (Blk.cells false) (mix_at (by omega) (by rw [ci_tC _ _ _ _ (by omega), ← tK_0 h9v])))))⟩
    ·
      try simp only [decide_eq_true_eq, decide_eq_false_iff_not, Bool.not_eq_true', Bool.not_eq_false', Bool.not_eq_true, Bool.not_eq_false] at hb2
      refine stEnd (hK _ [(2, _), (3, _), (4, _), (5, _), (6, _), (7, _), (8, _), (34, _)] _ _ rfl ?_)
      clear hK K
      refine W.condF rfl ?_
      refine W.exit ?_
      refine thenE ?_
      refine thenE ?_
      refine blockX ?_
      refine thenN ?_
      obtain rfl : k = 3 := (by omega)
      refine W.rR [2, 3, 4, 5, 6] fun K hK => ?_
      refine st rfl rfl (e_loadA t30 rfl rfl (by repeat (first | exact look_same | assumption | refine look_ne (by omega) ?_ | refine look_keep (by assumption) (by omega) (by simp; try omega) ?_)) rfl rfl) ?_
      refine st rfl rfl (e_loadA t25 rfl rfl (by repeat (first | exact look_same | assumption | refine look_ne (by omega) ?_ | refine look_keep (by assumption) (by omega) (by simp; try omega) ?_)) rfl rfl) ?_
      refine stC rfl rfl rfl (spec_l2With_s _ _ _ _ _ (withN (tC e.1 e.2 (tS e.1 (X, Y, Z))) cs i) (tC e.1 e.2 (tS e.1 (X, Y, Z)) (at3 cs i)) _ _ (by repeat (first | exact look_same | assumption | refine look_ne (by omega) ?_ | refine look_keep (by assumption) (by omega) (by simp; try omega) ?_)) (by have := withN_len (tC e.1 e.2 (tS e.1 (X, Y, Z))) cs i hi; omega)) ?_
      refine stN rfl (e_storeA t30 rfl rfl (by repeat (first | exact look_same | assumption | refine look_ne (by omega) ?_ | refine look_keep (by assumption) (by omega) (by simp; try omega) ?_)) rfl rfl rfl (by decide)) ?_
      refine stEnd (hK _ [(2, _), (3, _), (4, _), (5, _), (6, _)] _ _ rfl ?_)
      clear hK K
      refine blockN ?_
      refine thenN ?_
      refine W.rR [6, 2, 3, 4, 5] fun K hK => ?_
      refine st rfl rfl (e_move rfl) ?_
      refine st rfl rfl (e_add rfl rfl (inB _ (by omega))) ?_
      refine st rfl rfl (e_assign rfl) ?_
      refine stEnd (hK _ [(6, _), (2, _), (3, _), (4, _), (5, _)] _ _ rfl ?_)
      clear hK K
      exact roundN (V' := [(6, _)]) [6, 2, 3, 4, 5] rfl (by omega) (by repeat (first | exact Keeps.refl _ _ _ | assumption | refine Keeps.trans ?_ (by assumption) (by omega) (by simp; try omega) | refine Keeps.set ?_ (by first | exact Or.inl (by omega) | (simp; done) | (simp; omega)) | refine Keeps.del ?_ (by first | exact Or.inl (by omega) | (simp; done) | (simp; omega)) | refine Keeps.delO2 ?_ (by omega))) _ (by omega) ⟨i + 1, μ1, rfl, rfl, (by first | omega | assumption | simp_all), (by omega), (by rw [← withN_succ (by omega)]; exact look_same), (by rw [← withN_succ (by omega)]; exact (by repeat (first | exact look_same | assumption | refine look_ne (by omega) ?_ | refine look_keep (by assumption) (by omega) (by simp; try omega) ?_)))⟩
  ·
    try simp only [decide_eq_true_eq, decide_eq_false_iff_not, Bool.not_eq_true', Bool.not_eq_false', Bool.not_eq_true, Bool.not_eq_false] at hb1
    refine stEnd (hK _ [(2, _), (3, _), (4, _), (5, _), (6, _), (29, _)] _ _ rfl ?_)
    clear hK K
    refine W.condF rfl ?_
    refine W.exit ?_
    refine thenE ?_
    refine thenE ?_
    refine blockX ?_
    refine thenN ?_
    obtain rfl : i = cs.length := by omega
    rw [withN_cells hbx (fun c hc => tC_in ht (hv.inn c hc))] at hG hG2
    refine W.sR [4] fun K hK => ?_
    refine st rfl rfl (e_loadA t30 rfl rfl (by repeat (first | exact look_same | assumption | refine look_ne (by omega) ?_ | refine look_keep (by assumption) (by omega) (by simp; try omega) ?_)) rfl rfl) ?_
    refine stN rfl (e_storeA t30 rfl rfl (by repeat (first | exact look_same | assumption | refine look_ne (by omega) ?_ | refine look_keep (by assumption) (by omega) (by simp; try omega) ?_)) rfl rfl rfl (by decide)) ?_
    refine stEnd (hK _ [(4, _)] _ _ rfl ?_)
    clear hK K
    refine W.ret ?_
    refine ⟨.inr rfl, Ends.v1 (v) (by omega) (by repeat (first | exact self_old | assumption | refine set_old ?_ (by omega) | refine keep_old (by assumption) ?_ (by omega) (by simp; try omega))) hfresh (by repeat (first | exact look_same | assumption | refine look_ne (by omega) ?_ | refine look_keep (by assumption) (by omega) (by simp; try omega) ?_)) ?_ (by first | exact flat_plain _ | exact ints_plain _) (by simp [ltT, ltA, ltC, ltV]; try omega) (res1 (resC t30 rfl rfl (by repeat (first | exact look_same | assumption | refine look_ne (by omega) ?_ | refine look_keep (by assumption) (by omega) (by simp; try omega) ?_)) rfl rfl) rfl) ?_⟩
    · rfl
    · (simp [renT, renV, renC, renA, one]; try exact ⟨rfl, rfl, rfl⟩)
theorem spec_TurnHeap_ok_s (X Y Z : Int) (b : Nat) (ro : Bool) (cs : List C) (j : Nat) (H : Heap) (n : Nat) (hb : H b = some (.cells ro (flat cs))) (hlen : cs.length ≤ 1048576) (hh : isHeap X Y Z cs = true) (hj : j < 24) : Fn Try.prog 32 [.agg #[.int .i64 X, .int .i64 Y, .int .i64 Z, .slice (some ⟨b, 0, none⟩) cs.length 3], .int .i64 (j : Nat)] H n (.tuple #[.agg #[.int .i64 (tS (at6 TRN j).1 (X, Y, Z)).1, .int .i64 (tS (at6 TRN j).1 (X, Y, Z)).2.1, .int .i64 (tS (at6 TRN j).1 (X, Y, Z)).2.2, .slice (some ⟨n, 0, none⟩) (cellsOf (tS (at6 TRN j).1 (X, Y, Z)).1 (tS (at6 TRN j).1 (X, Y, Z)).2.1 (tS (at6 TRN j).1 (X, Y, Z)).2.2 (mask (tS (at6 TRN j).1 (X, Y, Z)).2.1 (tS (at6 TRN j).1 (X, Y, Z)).2.2 (cs.map (tC (at6 TRN j).1 (at6 TRN j).2 (tS (at6 TRN j).1 (X, Y, Z)))))).length 3], .bool true]) (H.set n (.cells false (flat (cellsOf (tS (at6 TRN j).1 (X, Y, Z)).1 (tS (at6 TRN j).1 (X, Y, Z)).2.1 (tS (at6 TRN j).1 (X, Y, Z)).2.2 (mask (tS (at6 TRN j).1 (X, Y, Z)).2.1 (tS (at6 TRN j).1 (X, Y, Z)).2.2 (cs.map (tC (at6 TRN j).1 (at6 TRN j).2 (tS (at6 TRN j).1 (X, Y, Z))))))))) (n + 1) := by
  refine Fn.intro' Try.func32 rfl (by kernel_rfl) Try.ntmps32 (by simp) (by omega) fun hfresh => ?_
  have lt_hb := lt_fresh hfresh hb
  have hv := valid_of hh
  have hX := hv.box
  have hvl := vol_le hX
  have hjl : j < TRN.length := by rw [TRN_length]; exact hj
  have ht := turn_at hj
  show W _ _ _ ⟨[(0, _), (1, _)], _, _⟩ _
  refine W.sR [1, 2, 4] fun K hK => ?_
  refine st rfl rfl (e_boxA rfl) ?_
  refine st rfl rfl (e_alloc t30 rfl) ?_
  refine st rfl rfl (e_assign rfl) ?_
  refine stEnd (hK _ [(1, _), (2, _), (4, _)] _ _ rfl ?_)
  clear hK K
  refine W.seq ?_
  refine W.sR [1, 2, 4, 13] fun K hK => ?_
  refine st rfl rfl (e_loadA t30 rfl rfl (by repeat (first | exact look_same | assumption | refine look_ne (by omega) ?_)) rfl rfl) ?_
  refine stC rfl rfl rfl (spec_l2Heap_s _ _ _ _ _ _ _ _ (by repeat (first | exact look_same | assumption | refine look_ne (by omega) ?_)) (by omega)) ?_
  rw [hh]
  refine st rfl rfl (e_not rfl) ?_
  refine st rfl rfl (e_move rfl) ?_
  refine st rfl rfl (e_move rfl) ?_
  refine stC rfl rfl rfl (spec_l8Number_s _ _ _ ) ?_
  rw [within_23 hj]
  refine st rfl rfl (e_not rfl) ?_
  refine st rfl rfl (e_pickF rfl rfl) ?_
  refine stEnd (hK _ [(1, _), (2, _), (4, _), (13, _)] _ _ rfl ?_)
  clear hK K
  refine W.condF rfl ?_
  refine W.skip ?_
  refine thenN ?_
  refine W.sD [4, 5] [0, 0, 0, 6, 14, 31, 63, 127] (by kernel_rfl) (by kernel_rfl) fun K hK => ?_
  refine dL rfl rfl rfl (by omega) (accB_ok rfl) (e_loadA t30 rfl rfl (by repeat (first | exact look_same | assumption | refine look_ne (by omega) ?_)) rfl rfl) ?_
  refine dC1 rfl rfl rfl rfl (spec_l8Turns_s  _ _ ) (by repeat (first | exact trivial | refine And.intro (Or.inl rfl) ?_ | refine And.intro (Or.inr trivial) ?_ | refine And.intro (Or.inr (And.intro (Or.inl (by omega)) (by first | (simp; done) | (simp; omega)))) ?_ | refine And.intro (Or.inr (And.intro (Or.inr (by omega)) (by first | (simp; done) | (simp; omega)))) ?_ | refine And.intro (Or.inr (by simp [compat]; try omega)) ?_)) (by first | exact List.not_mem_nil | (simp [hidden, Nat.testBit]; done) | (simp [hidden, Nat.testBit]; omega)) ?_
  refine dP rfl rfl rfl (e_move rfl) ?_
  refine dP rfl rfl rfl (e_idxSK _ t99 t98 rfl rfl rfl hjl) ?_
  refine dL rfl rfl rfl (by omega) (accB_ok rfl) (e_loadP t98 rfl rfl (by repeat (first | exact look_same | assumption | refine look_ne (by omega) ?_)) (flat6_at hjl)) ?_
  refine dC1 rfl rfl rfl rfl (spec_l8Made_s _ _ _ _ _ cs (at6 TRN j) _ _ (by repeat (first | exact look_same | assumption | refine look_ne (by omega) ?_ | refine look_hide (by omega) (by first | exact List.not_mem_nil | (simp [hidden, Nat.testBit]; done) | (simp [hidden, Nat.testBit]; omega)) ?_)) (by omega) (by assumption) (by assumption)) (accB_ok rfl) (by first | exact List.not_mem_nil | (simp [hidden, Nat.testBit]; done) | (simp [hidden, Nat.testBit]; omega)) ?_
  refine dSt rfl rfl (e_storeA t30 rfl rfl (by repeat (first | exact look_same | assumption | refine look_ne (by omega) ?_ | refine look_hide (by omega) (by first | exact List.not_mem_nil | (simp [hidden, Nat.testBit]; done) | (simp [hidden, Nat.testBit]; omega)) ?_)) rfl rfl rfl (by decide)) (by omega) (by first | exact List.not_mem_nil | (simp [hidden, Nat.testBit]; done) | (simp [hidden, Nat.testBit]; omega)) (accB_ok rfl) ?_
  refine dP rfl rfl rfl (e_assign rfl) ?_
  refine dEnd (hK _ [(4, _), (5, _)] _ _ rfl ?_)
  clear hK K
  refine W.ret ?_
  refine ⟨.inr rfl, Ends.v1 (n + 1 + 1 + 1) (by omega) (by repeat (first | exact self_old | assumption | refine set_old ?_ (by omega))) hfresh (by repeat (first | exact look_same | assumption | refine look_ne (by omega) ?_)) ?_ (by first | exact flat_plain _ | exact ints_plain _) (by simp [ltT, ltA, ltC, ltV]; try omega) (res2 (resC t30 rfl rfl (by repeat (first | exact look_same | assumption | refine look_ne (by omega) ?_)) rfl rfl) (resT rfl) rfl rfl) ?_⟩
  · rfl
  · (simp [renT, renV, renC, renA, one]; try exact ⟨rfl, rfl, rfl⟩)
theorem bld73_0_1_2 (v0 : Value) (v1 : Value) (v2 : Value) (h0 : oneV v0 = true) (h1 : oneV v1 = true) (h2 : oneV v2 = true) : cBuild Try.prog 73 [(0, v0), (1, v1), (2, v2)] = some (.agg #[v0, v1, v2]) := by
  simp [cBuild, t73, t3, fieldsOk, placesC, fillC, konst0, putC, (oneV_cells h0).1, (oneV_cells h1).1, (oneV_cells h2).1]
theorem impl_Heap_box_s (X Y Z : Int) (sv : Value) (H : Heap) (n : Nat) : Fn Try.prog 61 [.agg #[.int .i64 X, .int .i64 Y, .int .i64 Z, sv]] H n (.agg #[.int .i64 X, .int .i64 Y, .int .i64 Z]) (H) (n) := by
  refine Fn.intro' Try.func61 rfl (by kernel_rfl) Try.ntmps61 (by simp) (by omega) fun hfresh => ?_
  show W _ _ _ ⟨[(0, _)], _, _⟩ _
  refine W.sR [1, 2] fun K hK => ?_
  refine st rfl rfl (e_boxA rfl) ?_
  refine st rfl rfl (e_alloc t73 rfl) ?_
  refine stEnd (hK _ [(1, _), (2, _)] _ _ rfl ?_)
  clear hK K
  refine W.sR [2] fun K hK => ?_
  refine st rfl rfl (e_fieldAddr t30 t3 rfl rfl) ?_
  refine st rfl rfl (e_load1 t3 rfl rfl (by repeat (first | exact look_same | assumption | refine look_ne (by omega) ?_)) rfl) ?_
  refine st rfl rfl (e_fieldAddr t30 t3 rfl rfl) ?_
  refine st rfl rfl (e_load1 t3 rfl rfl (by repeat (first | exact look_same | assumption | refine look_ne (by omega) ?_)) rfl) ?_
  refine st rfl rfl (e_fieldAddr t30 t3 rfl rfl) ?_
  refine st rfl rfl (e_load1 t3 rfl rfl (by repeat (first | exact look_same | assumption | refine look_ne (by omega) ?_)) rfl) ?_
  refine st rfl rfl (e_build rfl rfl (bld73_0_1_2 _ _ _ rfl rfl rfl)) ?_
  refine stN rfl (e_storeA t73 rfl rfl (by repeat (first | exact look_same | assumption | refine look_ne (by omega) ?_)) rfl rfl rfl (by decide)) ?_
  refine stEnd (hK _ [(2, _)] _ _ rfl ?_)
  clear hK K
  refine W.ret ?_
  refine ⟨.inr rfl, Ends.v0 (by repeat (first | exact self_old | assumption | refine set_old ?_ (by omega))) hfresh (by first | rfl | (simp [ltT, ltA, ltC, ltV]; try omega)) (res1 (resC t73 rfl rfl (by repeat (first | exact look_same | assumption | refine look_ne (by omega) ?_)) rfl rfl) rfl) ?_⟩
  first | rfl | simp_all
theorem impl_within_s (a b c : Int) (H : Heap) (n : Nat) : Fn Try.prog 133 [.int .i64 a, .int .i64 b, .int .i64 c] H n (.bool (within a b c)) (H) (n) := by
  refine Fn.intro' Try.func133 rfl (by kernel_rfl) Try.ntmps133 (by simp) (by omega) fun hfresh => ?_
  show W _ _ _ ⟨[(0, _), (1, _), (2, _)], _, _⟩ _
  refine W.sR [0, 1, 2] fun K hK => ?_
  refine st rfl rfl (e_assign rfl) ?_
  refine stEnd (hK _ [(0, _), (1, _), (2, _)] _ _ rfl ?_)
  clear hK K
  refine W.sR [6] fun K hK => ?_
  refine st rfl rfl (e_move rfl) ?_
  refine st rfl rfl (e_move rfl) ?_
  refine st rfl rfl (e_geq rfl rfl) ?_
  refine st rfl rfl (e_move rfl) ?_
  refine stB (fun hb1 => ?_) (fun hb1 => ?_)
  ·
    try simp only [decide_eq_true_eq, decide_eq_false_iff_not, Bool.not_eq_true', Bool.not_eq_false', Bool.not_eq_true, Bool.not_eq_false] at hb1
    refine st rfl rfl (e_move rfl) ?_
    refine st rfl rfl (e_move rfl) ?_
    refine st rfl rfl (e_leq rfl rfl) ?_
    refine st rfl rfl (e_pickT rfl rfl) ?_
    refine st rfl rfl (e_assign rfl) ?_
    refine stEnd (hK _ [(6, _)] _ _ rfl ?_)
    clear hK K
    refine W.ret ?_
    refine ⟨.inr rfl, Ends.v0 (by repeat (first | exact self_old | assumption | refine set_old ?_ (by omega))) hfresh (by first | rfl | (simp [ltT, ltA, ltC, ltV]; try omega)) (res1 (resT rfl) rfl) ?_⟩
    simp [within, *] <;> omega
  ·
    try simp only [decide_eq_true_eq, decide_eq_false_iff_not, Bool.not_eq_true', Bool.not_eq_false', Bool.not_eq_true, Bool.not_eq_false] at hb1
    refine stS rfl rfl ?_
    refine stS rfl rfl ?_
    refine stS rfl rfl ?_
    refine st rfl rfl (e_pickF rfl rfl) ?_
    refine st rfl rfl (e_assign rfl) ?_
    refine stEnd (hK _ [(6, _)] _ _ rfl ?_)
    clear hK K
    refine W.ret ?_
    refine ⟨.inr rfl, Ends.v0 (by repeat (first | exact self_old | assumption | refine set_old ?_ (by omega))) hfresh (by first | rfl | (simp [ltT, ltA, ltC, ltV]; try omega)) (res1 (resT rfl) rfl) ?_⟩
    simp [within, *] <;> omega
theorem impl_box_valid_s (X Y Z : Int) (H : Heap) (n : Nat) : Fn Try.prog 136 [.agg #[.int .i64 X, .int .i64 Y, .int .i64 Z]] H n (.bool (sides X Y Z)) (H) (n) := by
  refine Fn.intro' Try.func136 rfl (by kernel_rfl) Try.ntmps136 (by simp) (by omega) fun hfresh => ?_
  show W _ _ _ ⟨[(0, _)], _, _⟩ _
  refine W.sR [1] fun K hK => ?_
  refine st rfl rfl (e_boxA rfl) ?_
  refine st rfl rfl (e_assign rfl) ?_
  refine stEnd (hK _ [(1, _)] _ _ rfl ?_)
  clear hK K
  refine W.sR [2] fun K hK => ?_
  refine st rfl rfl (e_idxAK (0) t73 t3 rfl rfl (by first | rfl | omega) (by first | omega | decide)) ?_
  refine st rfl rfl (e_load1 t3 rfl rfl (by repeat (first | exact look_same | assumption | refine look_ne (by omega) ?_)) (by first | rfl | exact tri_getL (by omega))) ?_
  refine stC rfl rfl rfl (impl_within_s _ _ _ _ _ ) ?_
  refine st rfl rfl (e_move rfl) ?_
  refine stB (fun hb1 => ?_) (fun hb1 => ?_)
  ·
    try simp only [decide_eq_true_eq, decide_eq_false_iff_not, Bool.not_eq_true', Bool.not_eq_false', Bool.not_eq_true, Bool.not_eq_false] at hb1
    refine st rfl rfl (e_idxAK (1) t73 t3 rfl rfl (by first | rfl | omega) (by first | omega | decide)) ?_
    refine st rfl rfl (e_load1 t3 rfl rfl (by repeat (first | exact look_same | assumption | refine look_ne (by omega) ?_)) (by first | rfl | exact tri_getL (by omega))) ?_
    refine stC rfl rfl rfl (impl_within_s _ _ _ _ _ ) ?_
    refine st rfl rfl (e_pickT rfl rfl) ?_
    refine st rfl rfl (e_move rfl) ?_
    refine stB (fun hb2 => ?_) (fun hb2 => ?_)
    ·
      try simp only [decide_eq_true_eq, decide_eq_false_iff_not, Bool.not_eq_true', Bool.not_eq_false', Bool.not_eq_true, Bool.not_eq_false] at hb2
      refine st rfl rfl (e_idxAK (2) t73 t3 rfl rfl (by first | rfl | omega) (by first | omega | decide)) ?_
      refine st rfl rfl (e_load1 t3 rfl rfl (by repeat (first | exact look_same | assumption | refine look_ne (by omega) ?_)) (by first | rfl | exact tri_getL (by omega))) ?_
      refine stC rfl rfl rfl (impl_within_s _ _ _ _ _ ) ?_
      refine st rfl rfl (e_pickT rfl rfl) ?_
      refine st rfl rfl (e_assign rfl) ?_
      refine stEnd (hK _ [(2, _)] _ _ rfl ?_)
      clear hK K
      refine W.ret ?_
      refine ⟨.inr rfl, Ends.v0 (by repeat (first | exact self_old | assumption | refine set_old ?_ (by omega))) hfresh (by first | rfl | (simp [ltT, ltA, ltC, ltV]; try omega)) (res1 (resT rfl) rfl) ?_⟩
      simp_all [sides]
    ·
      try simp only [decide_eq_true_eq, decide_eq_false_iff_not, Bool.not_eq_true', Bool.not_eq_false', Bool.not_eq_true, Bool.not_eq_false] at hb2
      refine stS rfl rfl ?_
      refine stS rfl rfl ?_
      refine stS rfl rfl ?_
      refine st rfl rfl (e_pickF rfl rfl) ?_
      refine st rfl rfl (e_assign rfl) ?_
      refine stEnd (hK _ [(2, _)] _ _ rfl ?_)
      clear hK K
      refine W.ret ?_
      refine ⟨.inr rfl, Ends.v0 (by repeat (first | exact self_old | assumption | refine set_old ?_ (by omega))) hfresh (by first | rfl | (simp [ltT, ltA, ltC, ltV]; try omega)) (res1 (resT rfl) rfl) ?_⟩
      simp_all [sides]
  ·
    try simp only [decide_eq_true_eq, decide_eq_false_iff_not, Bool.not_eq_true', Bool.not_eq_false', Bool.not_eq_true, Bool.not_eq_false] at hb1
    refine stS rfl rfl ?_
    refine stS rfl rfl ?_
    refine stS rfl rfl ?_
    refine st rfl rfl (e_pickF rfl rfl) ?_
    refine st rfl rfl (e_move rfl) ?_
    refine stS rfl rfl ?_
    refine stS rfl rfl ?_
    refine stS rfl rfl ?_
    refine st rfl rfl (e_pickF rfl rfl) ?_
    refine st rfl rfl (e_assign rfl) ?_
    refine stEnd (hK _ [(2, _)] _ _ rfl ?_)
    clear hK K
    refine W.ret ?_
    refine ⟨.inr rfl, Ends.v0 (by repeat (first | exact self_old | assumption | refine set_old ?_ (by omega))) hfresh (by first | rfl | (simp [ltT, ltA, ltC, ltV]; try omega)) (res1 (resT rfl) rfl) ?_⟩
    simp_all [sides]
theorem impl_box_has_s (X Y Z : Int) (c : C) (H : Heap) (n : Nat) (hX : (1 ≤ X ∧ X ≤ 4) ∧ (1 ≤ Y ∧ Y ≤ 4) ∧ (1 ≤ Z ∧ Z ≤ 4)) : Fn Try.prog 86 [.agg #[.int .i64 X, .int .i64 Y, .int .i64 Z], .agg #[.int .i64 c.1, .int .i64 c.2.1, .int .i64 c.2.2]] H n (.bool (inBox X Y Z c)) (H) (n) := by
  refine Fn.intro' Try.func86 rfl (by kernel_rfl) Try.ntmps86 (by simp) (by omega) fun hfresh => ?_
  show W _ _ _ ⟨[(0, _), (1, _)], _, _⟩ _
  refine W.sR [2, 3] fun K hK => ?_
  refine st rfl rfl (e_boxA rfl) ?_
  refine st rfl rfl (e_boxA rfl) ?_
  refine st rfl rfl (e_assign rfl) ?_
  refine stEnd (hK _ [(2, _), (3, _)] _ _ rfl ?_)
  clear hK K
  refine W.sR [4] fun K hK => ?_
  refine st rfl rfl (e_idxAK (0) t25 t3 rfl rfl (by first | rfl | omega) (by first | omega | decide)) ?_
  refine st rfl rfl (e_load1 t3 rfl rfl (by repeat (first | exact look_same | assumption | refine look_ne (by omega) ?_)) (by first | rfl | exact tri_getL (by omega))) ?_
  refine st rfl rfl (e_idxAK (0) t73 t3 rfl rfl (by first | rfl | omega) (by first | omega | decide)) ?_
  refine st rfl rfl (e_load1 t3 rfl rfl (by repeat (first | exact look_same | assumption | refine look_ne (by omega) ?_)) (by first | rfl | exact tri_getL (by omega))) ?_
  refine st rfl rfl (e_sub rfl rfl (inB _ (by omega))) ?_
  refine stC rfl rfl rfl (impl_within_s _ _ _ _ _ ) ?_
  refine st rfl rfl (e_move rfl) ?_
  refine stB (fun hb1 => ?_) (fun hb1 => ?_)
  ·
    try simp only [decide_eq_true_eq, decide_eq_false_iff_not, Bool.not_eq_true', Bool.not_eq_false', Bool.not_eq_true, Bool.not_eq_false] at hb1
    refine st rfl rfl (e_idxAK (1) t25 t3 rfl rfl (by first | rfl | omega) (by first | omega | decide)) ?_
    refine st rfl rfl (e_load1 t3 rfl rfl (by repeat (first | exact look_same | assumption | refine look_ne (by omega) ?_)) (by first | rfl | exact tri_getL (by omega))) ?_
    refine st rfl rfl (e_idxAK (1) t73 t3 rfl rfl (by first | rfl | omega) (by first | omega | decide)) ?_
    refine st rfl rfl (e_load1 t3 rfl rfl (by repeat (first | exact look_same | assumption | refine look_ne (by omega) ?_)) (by first | rfl | exact tri_getL (by omega))) ?_
    refine st rfl rfl (e_sub rfl rfl (inB _ (by omega))) ?_
    refine stC rfl rfl rfl (impl_within_s _ _ _ _ _ ) ?_
    refine st rfl rfl (e_pickT rfl rfl) ?_
    refine st rfl rfl (e_move rfl) ?_
    refine stB (fun hb2 => ?_) (fun hb2 => ?_)
    ·
      try simp only [decide_eq_true_eq, decide_eq_false_iff_not, Bool.not_eq_true', Bool.not_eq_false', Bool.not_eq_true, Bool.not_eq_false] at hb2
      refine st rfl rfl (e_idxAK (2) t25 t3 rfl rfl (by first | rfl | omega) (by first | omega | decide)) ?_
      refine st rfl rfl (e_load1 t3 rfl rfl (by repeat (first | exact look_same | assumption | refine look_ne (by omega) ?_)) (by first | rfl | exact tri_getL (by omega))) ?_
      refine st rfl rfl (e_idxAK (2) t73 t3 rfl rfl (by first | rfl | omega) (by first | omega | decide)) ?_
      refine st rfl rfl (e_load1 t3 rfl rfl (by repeat (first | exact look_same | assumption | refine look_ne (by omega) ?_)) (by first | rfl | exact tri_getL (by omega))) ?_
      refine st rfl rfl (e_sub rfl rfl (inB _ (by omega))) ?_
      refine stC rfl rfl rfl (impl_within_s _ _ _ _ _ ) ?_
      refine st rfl rfl (e_pickT rfl rfl) ?_
      refine st rfl rfl (e_assign rfl) ?_
      refine stEnd (hK _ [(4, _)] _ _ rfl ?_)
      clear hK K
      refine W.ret ?_
      refine ⟨.inr rfl, Ends.v0 (by repeat (first | exact self_old | assumption | refine set_old ?_ (by omega))) hfresh (by first | rfl | (simp [ltT, ltA, ltC, ltV]; try omega)) (res1 (resT rfl) rfl) ?_⟩
      simp_all [inBox]
    ·
      try simp only [decide_eq_true_eq, decide_eq_false_iff_not, Bool.not_eq_true', Bool.not_eq_false', Bool.not_eq_true, Bool.not_eq_false] at hb2
      refine stS rfl rfl ?_
      refine stS rfl rfl ?_
      refine stS rfl rfl ?_
      refine stS rfl rfl ?_
      refine stS rfl rfl ?_
      refine stS rfl rfl ?_
      refine st rfl rfl (e_pickF rfl rfl) ?_
      refine st rfl rfl (e_assign rfl) ?_
      refine stEnd (hK _ [(4, _)] _ _ rfl ?_)
      clear hK K
      refine W.ret ?_
      refine ⟨.inr rfl, Ends.v0 (by repeat (first | exact self_old | assumption | refine set_old ?_ (by omega))) hfresh (by first | rfl | (simp [ltT, ltA, ltC, ltV]; try omega)) (res1 (resT rfl) rfl) ?_⟩
      simp_all [inBox]
  ·
    try simp only [decide_eq_true_eq, decide_eq_false_iff_not, Bool.not_eq_true', Bool.not_eq_false', Bool.not_eq_true, Bool.not_eq_false] at hb1
    refine stS rfl rfl ?_
    refine stS rfl rfl ?_
    refine stS rfl rfl ?_
    refine stS rfl rfl ?_
    refine stS rfl rfl ?_
    refine stS rfl rfl ?_
    refine st rfl rfl (e_pickF rfl rfl) ?_
    refine st rfl rfl (e_move rfl) ?_
    refine stS rfl rfl ?_
    refine stS rfl rfl ?_
    refine stS rfl rfl ?_
    refine stS rfl rfl ?_
    refine stS rfl rfl ?_
    refine stS rfl rfl ?_
    refine st rfl rfl (e_pickF rfl rfl) ?_
    refine st rfl rfl (e_assign rfl) ?_
    refine stEnd (hK _ [(4, _)] _ _ rfl ?_)
    clear hK K
    refine W.ret ?_
    refine ⟨.inr rfl, Ends.v0 (by repeat (first | exact self_old | assumption | refine set_old ?_ (by omega))) hfresh (by first | rfl | (simp [ltT, ltA, ltC, ltV]; try omega)) (res1 (resT rfl) rfl) ?_⟩
    simp_all [inBox]
theorem cmp_isNaNint_s (a : Int) (H : Heap) (n : Nat) : Fn Try.prog 160 [.int .i64 a] H n (.bool false) (H) (n) := by
  refine Fn.intro' Try.func160 rfl (by kernel_rfl) Try.ntmps160 (by simp) (by omega) fun hfresh => ?_
  show W _ _ _ ⟨[(0, _)], _, _⟩ _
  refine W.sR [0] fun K hK => ?_
  refine st rfl rfl (e_assign rfl) ?_
  refine stEnd (hK _ [(0, _)] _ _ rfl ?_)
  clear hK K
  refine W.sR [2] fun K hK => ?_
  refine st rfl rfl (e_move rfl) ?_
  refine st rfl rfl (e_move rfl) ?_
  refine st rfl rfl (e_neq rfl rfl) ?_
  refine st rfl rfl (e_assign rfl) ?_
  refine stEnd (hK _ [(2, _)] _ _ rfl ?_)
  clear hK K
  refine W.ret ?_
  refine ⟨.inr rfl, Ends.v0 (by repeat (first | exact self_old | assumption | refine set_old ?_ (by omega))) hfresh (by first | rfl | (simp [ltT, ltA, ltC, ltV]; try omega)) (res1 (resT rfl) rfl) ?_⟩
  simp
theorem cmp_Compareint_s (a b : Int) (H : Heap) (n : Nat) : Fn Try.prog 159 [.int .i64 a, .int .i64 b] H n (.int .i64 (cmpI a b)) (H) (n) := by
  refine Fn.intro' Try.func159 rfl (by kernel_rfl) Try.ntmps159 (by simp) (by omega) fun hfresh => ?_
  show W _ _ _ ⟨[(0, _), (1, _)], _, _⟩ _
  refine W.sR [0, 1] fun K hK => ?_
  refine st rfl rfl (e_assign rfl) ?_
  refine stEnd (hK _ [(0, _), (1, _)] _ _ rfl ?_)
  clear hK K
  refine W.sR [0, 1, 5] fun K hK => ?_
  refine st rfl rfl (e_move rfl) ?_
  refine stC rfl rfl rfl (cmp_isNaNint_s _ _ _ ) ?_
  refine st rfl rfl (e_assign rfl) ?_
  refine stEnd (hK _ [(0, _), (1, _), (5, _)] _ _ rfl ?_)
  clear hK K
  refine W.sR [0, 1, 5, 6] fun K hK => ?_
  refine st rfl rfl (e_move rfl) ?_
  refine stC rfl rfl rfl (cmp_isNaNint_s _ _ _ ) ?_
  refine st rfl rfl (e_assign rfl) ?_
  refine stEnd (hK _ [(0, _), (1, _), (5, _), (6, _)] _ _ rfl ?_)
  clear hK K
  refine W.seq ?_
  refine W.sR [0, 1, 6, 11] fun K hK => ?_
  refine st rfl rfl (e_move rfl) ?_
  refine stEnd (hK _ [(0, _), (1, _), (6, _), (11, _)] _ _ rfl ?_)
  clear hK K
  refine W.condF rfl ?_
  refine W.skip ?_
  refine thenN ?_
  refine W.seq ?_
  refine W.sR [0, 1, 13] fun K hK => ?_
  refine st rfl rfl (e_move rfl) ?_
  refine stEnd (hK _ [(0, _), (1, _), (13, _)] _ _ rfl ?_)
  clear hK K
  refine W.condF rfl ?_
  refine W.skip ?_
  refine thenN ?_
  refine W.seq ?_
  refine W.sR [0, 1, 16] fun K hK => ?_
  refine st rfl rfl (e_move rfl) ?_
  refine st rfl rfl (e_move rfl) ?_
  refine st rfl rfl (e_lss rfl rfl) ?_
  refine stB (fun hb1 => ?_) (fun hb1 => ?_)
  ·
    try simp only [decide_eq_true_eq, decide_eq_false_iff_not, Bool.not_eq_true', Bool.not_eq_false', Bool.not_eq_true, Bool.not_eq_false] at hb1
    refine stEnd (hK _ [(0, _), (1, _), (16, _)] _ _ rfl ?_)
    clear hK K
    refine W.condT rfl ?_
    refine W.sR [4] fun K hK => ?_
    refine st rfl rfl (e_assign rfl) ?_
    refine stEnd (hK _ [(4, _)] _ _ rfl ?_)
    clear hK K
    refine W.ret ?_
    refine thenR ?_
    refine ⟨.inr rfl, Ends.v0 (by repeat (first | exact self_old | assumption | refine set_old ?_ (by omega))) hfresh (by first | rfl | (simp [ltT, ltA, ltC, ltV]; try omega)) (res1 (resT rfl) rfl) ?_⟩
    simp only [cmpI]; congr 1; (repeat' split) <;> omega
  ·
    try simp only [decide_eq_true_eq, decide_eq_false_iff_not, Bool.not_eq_true', Bool.not_eq_false', Bool.not_eq_true, Bool.not_eq_false] at hb1
    refine stEnd (hK _ [(0, _), (1, _), (16, _)] _ _ rfl ?_)
    clear hK K
    refine W.condF rfl ?_
    refine W.skip ?_
    refine thenN ?_
    refine W.seq ?_
    refine W.sR [19] fun K hK => ?_
    refine st rfl rfl (e_move rfl) ?_
    refine st rfl rfl (e_move rfl) ?_
    refine st rfl rfl (e_gtr rfl rfl) ?_
    refine stB (fun hb2 => ?_) (fun hb2 => ?_)
    ·
      try simp only [decide_eq_true_eq, decide_eq_false_iff_not, Bool.not_eq_true', Bool.not_eq_false', Bool.not_eq_true, Bool.not_eq_false] at hb2
      refine stEnd (hK _ [(19, _)] _ _ rfl ?_)
      clear hK K
      refine W.condT rfl ?_
      refine W.sR [4] fun K hK => ?_
      refine st rfl rfl (e_assign rfl) ?_
      refine stEnd (hK _ [(4, _)] _ _ rfl ?_)
      clear hK K
      refine W.ret ?_
      refine thenR ?_
      refine ⟨.inr rfl, Ends.v0 (by repeat (first | exact self_old | assumption | refine set_old ?_ (by omega))) hfresh (by first | rfl | (simp [ltT, ltA, ltC, ltV]; try omega)) (res1 (resT rfl) rfl) ?_⟩
      simp only [cmpI]; congr 1; (repeat' split) <;> omega
    ·
      try simp only [decide_eq_true_eq, decide_eq_false_iff_not, Bool.not_eq_true', Bool.not_eq_false', Bool.not_eq_true, Bool.not_eq_false] at hb2
      refine stEnd (hK _ [(19, _)] _ _ rfl ?_)
      clear hK K
      refine W.condF rfl ?_
      refine W.skip ?_
      refine thenN ?_
      refine W.sR [4] fun K hK => ?_
      refine st rfl rfl (e_assign rfl) ?_
      refine stEnd (hK _ [(4, _)] _ _ rfl ?_)
      clear hK K
      refine W.ret ?_
      refine ⟨.inr rfl, Ends.v0 (by repeat (first | exact self_old | assumption | refine set_old ?_ (by omega))) hfresh (by first | rfl | (simp [ltT, ltA, ltC, ltV]; try omega)) (res1 (resT rfl) rfl) ?_⟩
      simp only [cmpI]; congr 1; (repeat' split) <;> omega
theorem slices_Compareintint_s (b : Nat) (ro : Bool) (xs : List Int) (c : Nat) (ro2 : Bool) (ys : List Int) (H : Heap) (n : Nat) (hb : H b = some (.cells ro (ints xs))) (hc : H c = some (.cells ro2 (ints ys))) (hxs : xs.length ≤ 1048576) (hys : ys.length ≤ 1048576) : Fn Try.prog 153 [.slice (some ⟨b, 0, none⟩) xs.length 1, .slice (some ⟨c, 0, none⟩) ys.length 1] H n (.int .i64 (cmpL xs ys)) (H) (n) := by
  refine Fn.intro' Try.func153 rfl (by kernel_rfl) Try.ntmps153 (by simp) (by omega) fun hfresh => ?_
  have lt_hb := lt_fresh hfresh hb
  have lt_hc := lt_fresh hfresh hc
  show W _ _ _ ⟨[(0, _), (1, _)], _, _⟩ _
  refine W.sR [0, 1] fun K hK => ?_
  refine st rfl rfl (e_assign rfl) ?_
  refine stEnd (hK _ [(0, _), (1, _)] _ _ rfl ?_)
  clear hK K
  refine W.seq ?_
  refine W.sR [0, 1, 9, 10, 11] fun K hK => ?_
  refine st rfl rfl (e_move rfl) ?_
  refine st rfl rfl (e_len t40 rfl) ?_
  refine st rfl rfl (e_move rfl) ?_
  refine stEnd (hK _ [(0, _), (1, _), (9, _), (10, _), (11, _)] _ _ rfl ?_)
  clear hK K
  refine W.block ?_
  refine W.ord [11, 0, 1, 9, 10] (ts' := [(11, _)] ++ [(0, _), (1, _), (9, _), (10, _)]) rfl ?_
  refine W.loopC [(11, _)] [] (fun κ V G μ => ∃ i : Nat, V = [(11, .int .i64 (i : Nat))] ∧ κ = xs.length - i ∧ (i ≤ xs.length ∧ i ≤ ys.length) ∧ (cmpL xs ys = cmpL (xs.drop i) (ys.drop i))) _ ⟨0, rfl, rfl, (by first | omega | assumption | rfl | simp_all), (by first | omega | assumption | rfl | simp_all)⟩ fun κ V G μ hinv hμ hkeep hfr => ?_
  obtain ⟨i, rfl, rfl, hi, hq⟩ := hinv
  refine W.sR [0, 1, 9, 10, 11, 12] fun K hK => ?_
  refine st rfl rfl (e_lss rfl rfl) ?_
  refine stB (fun hb1 => ?_) (fun hb1 => ?_)
  ·
    try simp only [decide_eq_true_eq, decide_eq_false_iff_not, Bool.not_eq_true', Bool.not_eq_false', Bool.not_eq_true, Bool.not_eq_false] at hb1
    refine stEnd (hK _ [(0, _), (1, _), (9, _), (10, _), (11, _), (12, _)] _ _ rfl ?_)
    clear hK K
    refine W.seq ?_
    refine W.condT rfl ?_
    refine W.skip ?_
    refine thenN ?_
    refine W.seq ?_
    refine W.block ?_
    refine W.sR [0, 1, 5, 6, 9, 10, 11] fun K hK => ?_
    refine st rfl rfl (e_move rfl) ?_
    refine st rfl rfl (e_idxSK _ t40 t3 rfl rfl rfl (by first | omega | decide)) ?_
    refine st rfl rfl (e_load1 t3 rfl rfl (by repeat (first | exact look_same | assumption | refine look_ne (by omega) ?_ | refine look_keep (by assumption) (by omega) (by simp; try omega) ?_)) (ints_at (by omega))) ?_
    refine st rfl rfl (e_assign rfl) ?_
    refine st rfl rfl (e_assign rfl) ?_
    refine stEnd (hK _ [(0, _), (1, _), (5, _), (6, _), (9, _), (10, _), (11, _)] _ _ rfl ?_)
    clear hK K
    refine W.seq ?_
    refine W.sR [0, 1, 5, 6, 9, 10, 11, 19] fun K hK => ?_
    refine st rfl rfl (e_move rfl) ?_
    refine st rfl rfl (e_move rfl) ?_
    refine st rfl rfl (e_len t40 rfl) ?_
    refine st rfl rfl (e_geq rfl rfl) ?_
    refine stB (fun hb2 => ?_) (fun hb2 => ?_)
    ·
      try simp only [decide_eq_true_eq, decide_eq_false_iff_not, Bool.not_eq_true', Bool.not_eq_false', Bool.not_eq_true, Bool.not_eq_false] at hb2
      refine stEnd (hK _ [(0, _), (1, _), (5, _), (6, _), (9, _), (10, _), (11, _), (19, _)] _ _ rfl ?_)
      clear hK K
      refine W.condT rfl ?_
      refine W.sR [4] fun K hK => ?_
      refine st rfl rfl (e_assign rfl) ?_
      refine stEnd (hK _ [(4, _)] _ _ rfl ?_)
      clear hK K
      refine W.ret ?_
      refine thenR ?_
      refine blockR ?_
      refine thenR ?_
      refine thenR ?_
      refine blockR ?_
      refine thenR ?_
      refine ⟨.inr rfl, Ends.v0 (by repeat (first | exact self_old | assumption | refine set_old ?_ (by omega) | refine keep_old (by assumption) ?_ (by omega) (by simp; try omega))) hfresh (by first | rfl | (simp [ltT, ltA, ltC, ltV]; try omega)) (res1 (resT rfl) rfl) ?_⟩
      first | rw [cmpL_e1 hq (by omega) (by omega)] | rw [cmpL_e2 hq (by omega) (by omega)] | rw [cmpL_e3 hq (by omega) (by omega)] | rw [hq, cmpL_drop (by omega) (by omega), if_neg (by assumption)]
    ·
      try simp only [decide_eq_true_eq, decide_eq_false_iff_not, Bool.not_eq_true', Bool.not_eq_false', Bool.not_eq_true, Bool.not_eq_false] at hb2
      refine stEnd (hK _ [(0, _), (1, _), (5, _), (6, _), (9, _), (10, _), (11, _), (19, _)] _ _ rfl ?_)
      clear hK K
      refine W.condF rfl ?_
      refine W.skip ?_
      refine thenN ?_
      refine W.sR [0, 1, 6, 7, 9, 10, 11] fun K hK => ?_
      refine st rfl rfl (e_move rfl) ?_
      refine st rfl rfl (e_move rfl) ?_
      refine st rfl rfl (e_idxSK _ t40 t3 rfl rfl rfl (by first | omega | decide)) ?_
      refine st rfl rfl (e_load1 t3 rfl rfl (by repeat (first | exact look_same | assumption | refine look_ne (by omega) ?_ | refine look_keep (by assumption) (by omega) (by simp; try omega) ?_)) (ints_at (by omega))) ?_
      refine st rfl rfl (e_assign rfl) ?_
      refine stEnd (hK _ [(0, _), (1, _), (6, _), (7, _), (9, _), (10, _), (11, _)] _ _ rfl ?_)
      clear hK K
      refine W.sR [0, 1, 8, 9, 10, 11] fun K hK => ?_
      refine st rfl rfl (e_move rfl) ?_
      refine st rfl rfl (e_move rfl) ?_
      refine stC rfl rfl rfl (cmp_Compareint_s _ _ _ _ ) ?_
      refine st rfl rfl (e_assign rfl) ?_
      refine stEnd (hK _ [(0, _), (1, _), (8, _), (9, _), (10, _), (11, _)] _ _ rfl ?_)
      clear hK K
      refine W.sR [0, 1, 8, 9, 10, 11, 28] fun K hK => ?_
      refine st rfl rfl (e_move rfl) ?_
      refine st rfl rfl (e_neq rfl rfl) ?_
      refine stB (fun hb3 => ?_) (fun hb3 => ?_)
      ·
        try simp only [decide_eq_true_eq, decide_eq_false_iff_not, Bool.not_eq_true', Bool.not_eq_false', Bool.not_eq_true, Bool.not_eq_false] at hb3
        refine stEnd (hK _ [(0, _), (1, _), (8, _), (9, _), (10, _), (11, _), (28, _)] _ _ rfl ?_)
        clear hK K
        refine W.condT rfl ?_
        refine W.sR [4] fun K hK => ?_
        refine st rfl rfl (e_move rfl) ?_
        refine st rfl rfl (e_assign rfl) ?_
        refine stEnd (hK _ [(4, _)] _ _ rfl ?_)
        clear hK K
        refine W.ret ?_
        refine blockR ?_
        refine thenR ?_
        refine thenR ?_
        refine blockR ?_
        refine thenR ?_
        refine ⟨.inr rfl, Ends.v0 (by repeat (first | exact self_old | assumption | refine set_old ?_ (by omega) | refine keep_old (by assumption) ?_ (by omega) (by simp; try omega))) hfresh (by first | rfl | (simp [ltT, ltA, ltC, ltV]; try omega)) (res1 (resT rfl) rfl) ?_⟩
        first | rw [cmpL_e1 hq (by omega) (by omega)] | rw [cmpL_e2 hq (by omega) (by omega)] | rw [cmpL_e3 hq (by omega) (by omega)] | rw [hq, cmpL_drop (by omega) (by omega), if_neg (by assumption)]
      ·
        try simp only [decide_eq_true_eq, decide_eq_false_iff_not, Bool.not_eq_true', Bool.not_eq_false', Bool.not_eq_true, Bool.not_eq_false] at hb3
        refine stEnd (hK _ [(0, _), (1, _), (8, _), (9, _), (10, _), (11, _), (28, _)] _ _ rfl ?_)
        clear hK K
        refine W.condF rfl ?_
        refine W.skip ?_
        refine blockN ?_
        refine thenN ?_
        refine W.rR [11, 0, 1, 9, 10] fun K hK => ?_
        refine st rfl rfl (e_add rfl rfl (inB _ (by omega))) ?_
        refine st rfl rfl (e_move rfl) ?_
        refine stEnd (hK _ [(11, _), (0, _), (1, _), (9, _), (10, _)] _ _ rfl ?_)
        clear hK K
        exact roundN (V' := [(11, _)]) [11, 0, 1, 9, 10] rfl (by omega) (by repeat (first | exact Keeps.refl _ _ _ | assumption | refine Keeps.trans ?_ (by assumption) (by omega) (by simp; try omega) | refine Keeps.set ?_ (by first | exact Or.inl (by omega) | (simp; done) | (simp; omega)) | refine Keeps.del ?_ (by first | exact Or.inl (by omega) | (simp; done) | (simp; omega)) | refine Keeps.delO2 ?_ (by omega))) _ (by omega) ⟨i + 1, rfl, rfl, (by first | omega | assumption | simp_all), (by rw [hq, cmpL_drop (by omega) (by omega), if_pos (by assumption)])⟩
  ·
    try simp only [decide_eq_true_eq, decide_eq_false_iff_not, Bool.not_eq_true', Bool.not_eq_false', Bool.not_eq_true, Bool.not_eq_false] at hb1
    refine stEnd (hK _ [(0, _), (1, _), (9, _), (10, _), (11, _), (12, _)] _ _ rfl ?_)
    clear hK K
    refine W.seq ?_
    refine W.condF rfl ?_
    refine W.exit ?_
    refine thenE ?_
    refine thenE ?_
    refine blockX ?_
    refine thenN ?_
    refine W.seq ?_
    refine W.sR [35] fun K hK => ?_
    refine st rfl rfl (e_move rfl) ?_
    refine st rfl rfl (e_len t40 rfl) ?_
    refine st rfl rfl (e_move rfl) ?_
    refine st rfl rfl (e_len t40 rfl) ?_
    refine st rfl rfl (e_lss rfl rfl) ?_
    refine stB (fun hb4 => ?_) (fun hb4 => ?_)
    ·
      try simp only [decide_eq_true_eq, decide_eq_false_iff_not, Bool.not_eq_true', Bool.not_eq_false', Bool.not_eq_true, Bool.not_eq_false] at hb4
      refine stEnd (hK _ [(35, _)] _ _ rfl ?_)
      clear hK K
      refine W.condT rfl ?_
      refine W.sR [4] fun K hK => ?_
      refine st rfl rfl (e_assign rfl) ?_
      refine stEnd (hK _ [(4, _)] _ _ rfl ?_)
      clear hK K
      refine W.ret ?_
      refine thenR ?_
      refine ⟨.inr rfl, Ends.v0 (by repeat (first | exact self_old | assumption | refine set_old ?_ (by omega) | refine keep_old (by assumption) ?_ (by omega) (by simp; try omega))) hfresh (by first | rfl | (simp [ltT, ltA, ltC, ltV]; try omega)) (res1 (resT rfl) rfl) ?_⟩
      first | rw [cmpL_e1 hq (by omega) (by omega)] | rw [cmpL_e2 hq (by omega) (by omega)] | rw [cmpL_e3 hq (by omega) (by omega)] | rw [hq, cmpL_drop (by omega) (by omega), if_neg (by assumption)]
    ·
      try simp only [decide_eq_true_eq, decide_eq_false_iff_not, Bool.not_eq_true', Bool.not_eq_false', Bool.not_eq_true, Bool.not_eq_false] at hb4
      refine stEnd (hK _ [(35, _)] _ _ rfl ?_)
      clear hK K
      refine W.condF rfl ?_
      refine W.skip ?_
      refine thenN ?_
      refine W.sR [4] fun K hK => ?_
      refine st rfl rfl (e_assign rfl) ?_
      refine stEnd (hK _ [(4, _)] _ _ rfl ?_)
      clear hK K
      refine W.ret ?_
      refine ⟨.inr rfl, Ends.v0 (by repeat (first | exact self_old | assumption | refine set_old ?_ (by omega) | refine keep_old (by assumption) ?_ (by omega) (by simp; try omega))) hfresh (by first | rfl | (simp [ltT, ltA, ltC, ltV]; try omega)) (res1 (resT rfl) rfl) ?_⟩
      first | rw [cmpL_e1 hq (by omega) (by omega)] | rw [cmpL_e2 hq (by omega) (by omega)] | rw [cmpL_e3 hq (by omega) (by omega)] | rw [hq, cmpL_drop (by omega) (by omega), if_neg (by assumption)]
theorem impl_compareCells_s (a b : C) (H : Heap) (n : Nat) : Fn Try.prog 137 [.agg #[.int .i64 a.1, .int .i64 a.2.1, .int .i64 a.2.2], .agg #[.int .i64 b.1, .int .i64 b.2.1, .int .i64 b.2.2]] H n (.int .i64 (cmpC a b)) (H) (n) := by
  refine Fn.intro' Try.func137 rfl (by kernel_rfl) Try.ntmps137 (by simp) (by omega) fun hfresh => ?_
  show W _ _ _ ⟨[(0, _), (1, _)], _, _⟩ _
  refine W.sR [2, 3] fun K hK => ?_
  refine st rfl rfl (e_boxA rfl) ?_
  refine st rfl rfl (e_boxA rfl) ?_
  refine st rfl rfl (e_assign rfl) ?_
  refine stEnd (hK _ [(2, _), (3, _)] _ _ rfl ?_)
  clear hK K
  refine W.sD [4] [0, 0, 3, 7] (by kernel_rfl) (by kernel_rfl) fun K hK => ?_
  refine dLs rfl rfl rfl (by omega) (accB_ok rfl) (e_sliceA t25 t3 rfl (by repeat (first | exact look_same | assumption | refine look_ne (by omega) ?_)) (by first | (simp; done) | (simp only [tri, List.length_cons, List.length_nil]; omega))) ?_
  refine dLs rfl rfl rfl (by omega) (accB_ok rfl) (e_sliceA t25 t3 rfl (by repeat (first | exact look_same | assumption | refine look_ne (by omega) ?_)) (by first | (simp; done) | (simp only [tri, List.length_cons, List.length_nil]; omega))) ?_
  refine dC rfl rfl rfl rfl (slices_Compareintint_s _ _ [a.1, a.2.1, a.2.2] _ _ [b.1, b.2.1, b.2.2] _ _ (by repeat (first | exact look_same | assumption | refine look_ne (by omega) ?_ | refine look_hide (by omega) (by first | exact List.not_mem_nil | (simp [hidden, Nat.testBit]; done) | (simp [hidden, Nat.testBit]; omega)) ?_)) (by repeat (first | exact look_same | assumption | refine look_ne (by omega) ?_ | refine look_hide (by omega) (by first | exact List.not_mem_nil | (simp [hidden, Nat.testBit]; done) | (simp [hidden, Nat.testBit]; omega)) ?_)) (by simp) (by simp)) (accB_ok rfl) ?_
  refine dP rfl rfl rfl (e_assign rfl) ?_
  refine dEnd (hK _ [(4, _)] _ _ rfl ?_)
  clear hK K
  refine W.ret ?_
  refine ⟨.inr rfl, Ends.v0 (by repeat (first | exact self_old | assumption | refine set_old ?_ (by omega))) hfresh (by first | rfl | (simp [ltT, ltA, ltC, ltV]; try omega)) (res1 (resT rfl) rfl) ?_⟩
  rfl
theorem impl_IsHeap_s (X Y Z : Int) (b : Nat) (ro : Bool) (cs : List C) (H : Heap) (n : Nat) (hb : H b = some (.cells ro (flat cs))) (hlen : cs.length ≤ 1048576) : Fn Try.prog 94 [.agg #[.int .i64 X, .int .i64 Y, .int .i64 Z, .slice (some ⟨b, 0, none⟩) cs.length 3]] H n (.bool (isHeap X Y Z cs)) (H) (n) := by
  refine Fn.intro' Try.func94 rfl (by kernel_rfl) Try.ntmps94 (by simp) (by omega) fun hfresh => ?_
  have lt_hb := lt_fresh hfresh hb
  show W _ _ _ ⟨[(0, _)], _, _⟩ _
  refine W.sR [1] fun K hK => ?_
  refine st rfl rfl (e_boxA rfl) ?_
  refine st rfl rfl (e_assign rfl) ?_
  refine stEnd (hK _ [(1, _)] _ _ rfl ?_)
  clear hK K
  refine W.seq ?_
  refine W.sR [1, 8] fun K hK => ?_
  refine st rfl rfl (e_loadA t30 rfl rfl (by repeat (first | exact look_same | assumption | refine look_ne (by omega) ?_ | refine look_keep (by assumption) (by omega) (by simp; try omega) ?_)) rfl rfl) ?_
  refine stC rfl rfl rfl (impl_Heap_box_s _ _ _ _ _ _ ) ?_
  refine stC rfl rfl rfl (impl_box_valid_s _ _ _ _ _ ) ?_
  refine st rfl rfl (e_not rfl) ?_
  refine stB (fun hv => ?_) (fun hv => ?_)
  ·
    try simp only [decide_eq_true_eq, decide_eq_false_iff_not, Bool.not_eq_true', Bool.not_eq_false', Bool.not_eq_true, Bool.not_eq_false] at hv
    refine stEnd (hK _ [(1, _), (8, _)] _ _ rfl ?_)
    clear hK K
    refine W.condT rfl ?_
    refine W.sR [2] fun K hK => ?_
    refine st rfl rfl (e_assign rfl) ?_
    refine stEnd (hK _ [(2, _)] _ _ rfl ?_)
    clear hK K
    refine W.ret ?_
    refine thenR ?_
    refine ⟨.inr rfl, Ends.v0 (by repeat (first | exact self_old | assumption | refine set_old ?_ (by omega) | refine keep_old (by assumption) ?_ (by omega) (by simp; try omega))) hfresh (by first | rfl | (simp [ltT, ltA, ltC, ltV]; try omega)) (res1 (resT rfl) rfl) ?_⟩
    first | (rw [isHeap_no1 hv]) | (rw [isHeap_yes hv (fun j hj => hq j (by omega))]) | (rw [isHeap_no2 (i := i) (by omega) (by first | exact okAt_no1 (by assumption) | exact okAt_no2 (by omega) (by assumption) | exact okAt_no3 (by omega) (by assumption))])
  ·
    try simp only [decide_eq_true_eq, decide_eq_false_iff_not, Bool.not_eq_true', Bool.not_eq_false', Bool.not_eq_true, Bool.not_eq_false] at hv
    have hX := sides_bd hv
    refine stEnd (hK _ [(1, _), (8, _)] _ _ rfl ?_)
    clear hK K
    refine W.condF rfl ?_
    refine W.skip ?_
    refine thenN ?_
    refine W.seq ?_
    refine W.sR [1, 10, 11, 12] fun K hK => ?_
    refine st rfl rfl (e_fieldAddr t30 t22 rfl rfl) ?_
    refine st rfl rfl (e_load1 t22 rfl rfl (by repeat (first | exact look_same | assumption | refine look_ne (by omega) ?_ | refine look_keep (by assumption) (by omega) (by simp; try omega) ?_)) rfl) ?_
    refine st rfl rfl (e_len t22 rfl) ?_
    refine st rfl rfl (e_move rfl) ?_
    refine stEnd (hK _ [(1, _), (10, _), (11, _), (12, _)] _ _ rfl ?_)
    clear hK K
    refine W.block ?_
    refine W.ord [12, 1, 10, 11] (ts' := [(12, _)] ++ [(1, _), (10, _), (11, _)]) rfl ?_
    refine W.loopC [(12, _)] [] (fun κ V G μ => ∃ i : Nat, V = [(12, .int .i64 (i : Nat))] ∧ κ = cs.length - i ∧ (i ≤ cs.length) ∧ (∀ j, j < i → okAt X Y Z cs j = true)) _ ⟨0, rfl, rfl, (by first | omega | assumption | rfl | simp_all), (fun j hj => absurd hj (by omega))⟩ fun κ V G μ hinv hμ hkeep hfr => ?_
    obtain ⟨i, rfl, rfl, hi, hq⟩ := hinv
    refine W.sR [1, 10, 11, 12, 13] fun K hK => ?_
    refine st rfl rfl (e_lss rfl rfl) ?_
    refine stB (fun hb2 => ?_) (fun hb2 => ?_)
    ·
      try simp only [decide_eq_true_eq, decide_eq_false_iff_not, Bool.not_eq_true', Bool.not_eq_false', Bool.not_eq_true, Bool.not_eq_false] at hb2
      refine stEnd (hK _ [(1, _), (10, _), (11, _), (12, _), (13, _)] _ _ rfl ?_)
      clear hK K
      refine W.seq ?_
      refine W.condT rfl ?_
      refine W.skip ?_
      refine thenN ?_
      refine W.seq ?_
      refine W.block ?_
      refine W.sR [1, 3, 4, 10, 11, 12] fun K hK => ?_
      refine st rfl rfl (e_move rfl) ?_
      refine st rfl rfl (e_idxSK _ t22 t25 rfl rfl rfl (by first | omega | decide)) ?_
      refine st rfl rfl (e_loadP t25 rfl rfl (by repeat (first | exact look_same | assumption | refine look_ne (by omega) ?_ | refine look_keep (by assumption) (by omega) (by simp; try omega) ?_)) (flat_at (by omega))) ?_
      refine st rfl rfl (e_alloc t25 rfl) ?_
      refine st rfl rfl (e_assign rfl) ?_
      refine stN rfl (e_storeA t25 rfl rfl (by repeat (first | exact look_same | assumption | refine look_ne (by omega) ?_ | refine look_keep (by assumption) (by omega) (by simp; try omega) ?_)) rfl rfl rfl (by decide)) ?_
      refine stEnd (hK _ [(1, _), (3, _), (4, _), (10, _), (11, _), (12, _)] _ _ rfl ?_)
      clear hK K
      refine W.sD [1, 10, 11, 12, 36] [0, 1, 0, 7, 15, 31, 63, 127, 255, 511, 1023, 511, 2559, 8191, 16383, 511, 65535, 131071, 262143, 524287] (by kernel_rfl) (by kernel_rfl) fun K hK => ?_
      refine dL rfl rfl rfl (by omega) (accB_ok rfl) (e_loadA t30 rfl rfl (by repeat (first | exact look_same | assumption | refine look_ne (by omega) ?_ | refine look_keep (by assumption) (by omega) (by simp; try omega) ?_)) rfl rfl) ?_
      refine dC rfl rfl rfl rfl (impl_Heap_box_s _ _ _ _ _ _ ) (accB_ok rfl) ?_
      refine dL rfl rfl rfl (by omega) (by repeat (first | exact trivial | refine And.intro (Or.inl rfl) ?_ | refine And.intro (Or.inr trivial) ?_ | refine And.intro (Or.inr (And.intro (Or.inl (by omega)) (by first | (simp; done) | (simp; omega)))) ?_ | refine And.intro (Or.inr (And.intro (Or.inr (by omega)) (by first | (simp; done) | (simp; omega)))) ?_ | refine And.intro (Or.inr (by simp [compat]; try omega)) ?_)) (e_loadA t25 rfl rfl (by repeat (first | exact look_same | assumption | refine look_ne (by omega) ?_ | refine look_keep (by assumption) (by omega) (by simp; try omega) ?_)) rfl rfl) ?_
      refine dC rfl rfl rfl rfl (impl_box_has_s _ _ _ _ _ _ (by omega)) (accB_ok rfl) ?_
      refine dP rfl rfl rfl (e_not rfl) ?_
      refine dP rfl rfl rfl (e_move rfl) ?_
      refine dB (fun hb3 => ?_) (fun hb3 => ?_)
      ·
        try simp only [decide_eq_true_eq, decide_eq_false_iff_not, Bool.not_eq_true', Bool.not_eq_false', Bool.not_eq_true, Bool.not_eq_false] at hb3
        refine dS rfl rfl ?_
        refine dS rfl rfl ?_
        refine dS rfl rfl ?_
        refine dS rfl rfl ?_
        refine dS rfl rfl ?_
        refine dS rfl rfl ?_
        refine dS rfl rfl ?_
        refine dS rfl rfl ?_
        refine dS rfl rfl ?_
        refine dS rfl rfl ?_
        refine dS rfl rfl ?_
        refine dS rfl rfl ?_
        refine dS rfl rfl ?_
        refine dP rfl rfl rfl (e_pickT rfl rfl) ?_
        refine dEnd (hK _ [(1, _), (10, _), (11, _), (12, _), (36, _)] _ _ rfl ?_)
        clear hK K
        refine W.condT rfl ?_
        refine W.sR [2] fun K hK => ?_
        refine st rfl rfl (e_assign rfl) ?_
        refine stEnd (hK _ [(2, _)] _ _ rfl ?_)
        clear hK K
        refine W.ret ?_
        refine blockR ?_
        refine thenR ?_
        refine thenR ?_
        refine blockR ?_
        refine thenR ?_
        refine ⟨.inr rfl, Ends.v0 (by repeat (first | exact self_old | assumption | refine set_old ?_ (by omega) | refine keep_old (by assumption) ?_ (by omega) (by simp; try omega))) hfresh (by first | rfl | (simp [ltT, ltA, ltC, ltV]; try omega)) (res1 (resT rfl) rfl) ?_⟩
        first | (rw [isHeap_no1 hv]) | (rw [isHeap_yes hv (fun j hj => hq j (by omega))]) | (rw [isHeap_no2 (i := i) (by omega) (by first | exact okAt_no1 (by assumption) | exact okAt_no2 (by omega) (by assumption) | exact okAt_no3 (by omega) (by assumption))])
      ·
        try simp only [decide_eq_true_eq, decide_eq_false_iff_not, Bool.not_eq_true', Bool.not_eq_false', Bool.not_eq_true, Bool.not_eq_false] at hb3
        refine dP rfl rfl rfl (e_move rfl) ?_
        refine dP rfl rfl rfl (e_gtr rfl rfl) ?_
        refine dP rfl rfl rfl (e_move rfl) ?_
        refine dB (fun hb4 => ?_) (fun hb4 => ?_)
        ·
          try simp only [decide_eq_true_eq, decide_eq_false_iff_not, Bool.not_eq_true', Bool.not_eq_false', Bool.not_eq_true, Bool.not_eq_false] at hb4
          refine dP rfl rfl rfl (e_fieldAddr t30 t22 rfl rfl) ?_
          refine dL rfl rfl rfl (by omega) (accB_ok rfl) (e_load1 t22 rfl rfl (by repeat (first | exact look_same | assumption | refine look_ne (by omega) ?_ | refine look_keep (by assumption) (by omega) (by simp; try omega) ?_)) rfl) ?_
          refine dP rfl rfl rfl (e_move rfl) ?_
          refine dP rfl rfl rfl (e_sub rfl rfl (inB _ (by omega))) ?_
          refine dP rfl rfl rfl (e_idxSK (i - 1) t22 t25 rfl rfl (by first | rfl | omega) (by first | omega | decide)) ?_
          refine dL rfl rfl rfl (by omega) (accB_ok rfl) (e_loadP t25 rfl rfl (by repeat (first | exact look_same | assumption | refine look_ne (by omega) ?_ | refine look_keep (by assumption) (by omega) (by simp; try omega) ?_)) (flat_at (by omega))) ?_
          refine dL rfl rfl rfl (by omega) (accB_ok rfl) (e_loadA t25 rfl rfl (by repeat (first | exact look_same | assumption | refine look_ne (by omega) ?_ | refine look_keep (by assumption) (by omega) (by simp; try omega) ?_)) rfl rfl) ?_
          refine dC rfl rfl rfl rfl (impl_compareCells_s _ _ _ _ ) (accB_ok rfl) ?_
          refine dP rfl rfl rfl (e_geq rfl rfl) ?_
          refine dP rfl rfl rfl (e_pickT rfl rfl) ?_
          refine dP rfl rfl rfl (e_pickF rfl rfl) ?_
          refine dB (fun hb5 => ?_) (fun hb5 => ?_)
          ·
            try simp only [decide_eq_true_eq, decide_eq_false_iff_not, Bool.not_eq_true', Bool.not_eq_false', Bool.not_eq_true, Bool.not_eq_false] at hb5
            refine dEnd (hK _ [(1, _), (10, _), (11, _), (12, _), (36, _)] _ _ rfl ?_)
            clear hK K
            refine W.condT rfl ?_
            refine W.sR [2] fun K hK => ?_
            refine st rfl rfl (e_assign rfl) ?_
            refine stEnd (hK _ [(2, _)] _ _ rfl ?_)
            clear hK K
            refine W.ret ?_
            refine blockR ?_
            refine thenR ?_
            refine thenR ?_
            refine blockR ?_
            refine thenR ?_
            refine ⟨.inr rfl, Ends.v0 (by repeat (first | exact self_old | assumption | refine set_old ?_ (by omega) | refine keep_old (by assumption) ?_ (by omega) (by simp; try omega))) hfresh (by first | rfl | (simp [ltT, ltA, ltC, ltV]; try omega)) (res1 (resT rfl) rfl) ?_⟩
            first | (rw [isHeap_no1 hv]) | (rw [isHeap_yes hv (fun j hj => hq j (by omega))]) | (rw [isHeap_no2 (i := i) (by omega) (by first | exact okAt_no1 (by assumption) | exact okAt_no2 (by omega) (by assumption) | exact okAt_no3 (by omega) (by assumption))])
          ·
            try simp only [decide_eq_true_eq, decide_eq_false_iff_not, Bool.not_eq_true', Bool.not_eq_false', Bool.not_eq_true, Bool.not_eq_false] at hb5
            refine dEnd (hK _ [(1, _), (10, _), (11, _), (12, _), (36, _)] _ _ rfl ?_)
            clear hK K
            refine W.condF rfl ?_
            refine W.skip ?_
            refine blockN ?_
            refine thenN ?_
            refine W.rR [12, 1, 10, 11] fun K hK => ?_
            refine st rfl rfl (e_add rfl rfl (inB _ (by omega))) ?_
            refine st rfl rfl (e_move rfl) ?_
            refine stEnd (hK _ [(12, _), (1, _), (10, _), (11, _)] _ _ rfl ?_)
            clear hK K
            exact roundN (V' := [(12, _)]) [12, 1, 10, 11] rfl (by omega) (by repeat (first | exact Keeps.refl _ _ _ | assumption | refine Keeps.trans ?_ (by assumption) (by omega) (by simp; try omega) | refine Keeps.set ?_ (by first | exact Or.inl (by omega) | (simp; done) | (simp; omega)) | refine Keeps.del ?_ (by first | exact Or.inl (by omega) | (simp; done) | (simp; omega)) | refine Keeps.delO2 ?_ (by omega))) _ (by omega) ⟨i + 1, rfl, rfl, (by first | omega | assumption | simp_all), (all_succ hq (by first | exact okAt_yes1 (by assumption) (by omega) | exact okAt_yes2 (by assumption) (by assumption) | exact okAt_yes3 (by assumption) (by assumption)))⟩
        ·
          try simp only [decide_eq_true_eq, decide_eq_false_iff_not, Bool.not_eq_true', Bool.not_eq_false', Bool.not_eq_true, Bool.not_eq_false] at hb4
          refine dS rfl rfl ?_
          refine dS rfl rfl ?_
          refine dS rfl rfl ?_
          refine dS rfl rfl ?_
          refine dS rfl rfl ?_
          refine dS rfl rfl ?_
          refine dS rfl rfl ?_
          refine dS rfl rfl ?_
          refine dS rfl rfl ?_
          refine dP rfl rfl rfl (e_pickF rfl rfl) ?_
          refine dP rfl rfl rfl (e_pickF rfl rfl) ?_
          refine dEnd (hK _ [(1, _), (10, _), (11, _), (12, _), (36, _)] _ _ rfl ?_)
          clear hK K
          refine W.condF rfl ?_
          refine W.skip ?_
          refine blockN ?_
          refine thenN ?_
          refine W.rR [12, 1, 10, 11] fun K hK => ?_
          refine st rfl rfl (e_add rfl rfl (inB _ (by omega))) ?_
          refine st rfl rfl (e_move rfl) ?_
          refine stEnd (hK _ [(12, _), (1, _), (10, _), (11, _)] _ _ rfl ?_)
          clear hK K
          exact roundN (V' := [(12, _)]) [12, 1, 10, 11] rfl (by omega) (by repeat (first | exact Keeps.refl _ _ _ | assumption | refine Keeps.trans ?_ (by assumption) (by omega) (by simp; try omega) | refine Keeps.set ?_ (by first | exact Or.inl (by omega) | (simp; done) | (simp; omega)) | refine Keeps.del ?_ (by first | exact Or.inl (by omega) | (simp; done) | (simp; omega)) | refine Keeps.delO2 ?_ (by omega))) _ (by omega) ⟨i + 1, rfl, rfl, (by first | omega | assumption | simp_all), (all_succ hq (by first | exact okAt_yes1 (by assumption) (by omega) | exact okAt_yes2 (by assumption) (by assumption) | exact okAt_yes3 (by assumption) (by assumption)))⟩
    ·
      try simp only [decide_eq_true_eq, decide_eq_false_iff_not, Bool.not_eq_true', Bool.not_eq_false', Bool.not_eq_true, Bool.not_eq_false] at hb2
      refine stEnd (hK _ [(1, _), (10, _), (11, _), (12, _), (13, _)] _ _ rfl ?_)
      clear hK K
      refine W.seq ?_
      refine W.condF rfl ?_
      refine W.exit ?_
      refine thenE ?_
      refine thenE ?_
      refine blockX ?_
      refine thenN ?_
      refine W.sR [2] fun K hK => ?_
      refine st rfl rfl (e_assign rfl) ?_
      refine stEnd (hK _ [(2, _)] _ _ rfl ?_)
      clear hK K
      refine W.ret ?_
      refine ⟨.inr rfl, Ends.v0 (by repeat (first | exact self_old | assumption | refine set_old ?_ (by omega) | refine keep_old (by assumption) ?_ (by omega) (by simp; try omega))) hfresh (by first | rfl | (simp [ltT, ltA, ltC, ltV]; try omega)) (res1 (resT rfl) rfl) ?_⟩
      first | (rw [isHeap_no1 hv]) | (rw [isHeap_yes hv (fun j hj => hq j (by omega))]) | (rw [isHeap_no2 (i := i) (by omega) (by first | exact okAt_no1 (by assumption) | exact okAt_no2 (by omega) (by assumption) | exact okAt_no3 (by omega) (by assumption))])
theorem impl_isTurn_s (a : Int) (H : Heap) (n : Nat) : Fn Try.prog 95 [.int .i64 a] H n (.bool (within a 0 23)) (H) (n) := by
  refine Fn.intro' Try.func95 rfl (by kernel_rfl) Try.ntmps95 (by simp) (by omega) fun hfresh => ?_
  show W _ _ _ ⟨[(0, _)], _, _⟩ _
  refine W.sR [0] fun K hK => ?_
  refine st rfl rfl (e_assign rfl) ?_
  refine stEnd (hK _ [(0, _)] _ _ rfl ?_)
  clear hK K
  refine W.sR [2] fun K hK => ?_
  refine st rfl rfl (e_move rfl) ?_
  refine stC rfl rfl rfl (impl_within_s _ _ _ _ _ ) ?_
  refine st rfl rfl (e_assign rfl) ?_
  refine stEnd (hK _ [(2, _)] _ _ rfl ?_)
  clear hK K
  refine W.ret ?_
  refine ⟨.inr rfl, Ends.v0 (by repeat (first | exact self_old | assumption | refine set_old ?_ (by omega))) hfresh (by first | rfl | (simp [ltT, ltA, ltC, ltV]; try omega)) (res1 (resT rfl) rfl) ?_⟩
  rfl
theorem bsl22_6 {H : Heap} {n : Nat} {v0_0 : Value} {v0_1 : Value} {v0_2 : Value} {v1_0 : Value} {v1_1 : Value} {v1_2 : Value} {v2_0 : Value} {v2_1 : Value} {v2_2 : Value} {v3_0 : Value} {v3_1 : Value} {v3_2 : Value} {v4_0 : Value} {v4_1 : Value} {v4_2 : Value} {v5_0 : Value} {v5_1 : Value} {v5_2 : Value} : cBuildSlice Try.prog 22 6 H n [(0, .agg #[v0_0, v0_1, v0_2]), (1, .agg #[v1_0, v1_1, v1_2]), (2, .agg #[v2_0, v2_1, v2_2]), (3, .agg #[v3_0, v3_1, v3_2]), (4, .agg #[v4_0, v4_1, v4_2]), (5, .agg #[v5_0, v5_1, v5_2])] = some (.slice (some ⟨n, 0, none⟩) 6 3, H.set n (.cells false [v0_0, v0_1, v0_2, v1_0, v1_1, v1_2, v2_0, v2_1, v2_2, v3_0, v3_1, v3_2, v4_0, v4_1, v4_2, v5_0, v5_1, v5_2]), n + 1) := by
  simp [cBuildSlice, t22, t25, fillC, zeros, konst0, putC, Value.cells]
theorem impl_orders_s  (H : Heap) (n : Nat) : Fn Try.prog 69 [] H n (.slice (some ⟨n, 0, none⟩) 6 3) (H.set n (.cells false (flat Go.Sep.ORD))) (n + 1) := by
  refine Fn.intro' Try.func69 rfl (by kernel_rfl) Try.ntmps69 (by simp) (by omega) fun hfresh => ?_
  show W _ _ _ ⟨[], _, _⟩ _
  refine W.sR [] fun K hK => ?_
  refine st rfl rfl (e_assign rfl) ?_
  refine stEnd (hK _ [] _ _ rfl ?_)
  clear hK K
  refine W.sR [0] fun K hK => ?_
  refine st rfl rfl (e_build rfl rfl (bld25_0_1_2 _ _ _ rfl rfl rfl)) ?_
  refine st rfl rfl (e_build rfl rfl (bld25_0_1_2 _ _ _ rfl rfl rfl)) ?_
  refine st rfl rfl (e_build rfl rfl (bld25_0_1_2 _ _ _ rfl rfl rfl)) ?_
  refine st rfl rfl (e_build rfl rfl (bld25_0_1_2 _ _ _ rfl rfl rfl)) ?_
  refine st rfl rfl (e_build rfl rfl (bld25_0_1_2 _ _ _ rfl rfl rfl)) ?_
  refine st rfl rfl (e_build rfl rfl (bld25_0_1_2 _ _ _ rfl rfl rfl)) ?_
  refine st rfl rfl (e_buildSlice rfl rfl (bsl22_6)) ?_
  refine st rfl rfl (e_assign rfl) ?_
  refine stEnd (hK _ [(0, _)] _ _ rfl ?_)
  clear hK K
  refine W.ret ?_
  refine ⟨.inr rfl, Ends.v1 (n) (by omega) (by repeat (first | exact self_old | assumption | refine set_old ?_ (by omega))) hfresh (by repeat (first | exact look_same | assumption | refine look_ne (by omega) ?_)) ?_ (flat_plain _) (by simp [ltT, ltA, ltC, ltV]; try omega) (res1 (resT rfl) rfl) ?_⟩
  · rfl
  · simp [renT, renV, renC, renA, one]
end Go.Sep.Walks
