/- Part of a proof: qclea0 -/
import Derived.Test.YtejicbppanhbjaaTT
import Derived.Test.YtejicbppanhbjaaTop2
namespace Go.Sep.Walks
open Go Go.Sep Go.Proofs
set_option linter.unusedVariables false
set_option linter.unusedSimpArgs false
theorem laws_szIntS_s (p : Option Addr) (m e : Nat) (left : Int) (H : Heap) (n : Nat) (hm : m ≤ 9223372036854775807 ∧ 0 ≤ left ∧ left ≤ 1073741824) : Fn Try.prog 68 [.slice p m e, .int .i64 left] H n (.int .i64 (if left - (m : Int) < 0 then -1 else left - (m : Int))) (H) (n) := by
  refine Fn.intro' Try.func68 rfl (by kernel_rfl) Try.ntmps68 (by simp) (by omega) fun hfresh => ?_
  show W _ _ _ ⟨[(0, _), (1, _)], _, _⟩ _
  refine W.sR [0, 1] fun K hK => ?_
  refine st rfl rfl (e_assign rfl) ?_
  refine stEnd (hK _ [(0, _), (1, _)] _ _ rfl ?_)
  clear hK K
  refine W.sR [1] fun K hK => ?_
  refine st rfl rfl (e_move rfl) ?_
  refine st rfl rfl (e_move rfl) ?_
  refine st rfl rfl (e_len t32 rfl) ?_
  refine st rfl rfl (e_sub rfl rfl (inB _ (by omega))) ?_
  refine st rfl rfl (e_assign rfl) ?_
  refine stEnd (hK _ [(1, _)] _ _ rfl ?_)
  clear hK K
  refine W.seq ?_
  refine W.sR [1, 10] fun K hK => ?_
  refine st rfl rfl (e_move rfl) ?_
  refine st rfl rfl (e_lss rfl rfl) ?_
  refine stB (fun hb1 => ?_) (fun hb1 => ?_)
  ·
    try simp only [decide_eq_true_eq, decide_eq_false_iff_not, Bool.not_eq_true', Bool.not_eq_false', Bool.not_eq_true, Bool.not_eq_false] at hb1
    refine stEnd (hK _ [(1, _), (10, _)] _ _ rfl ?_)
    clear hK K
    refine W.condT rfl ?_
    refine W.sR [4] fun K hK => ?_
    refine st rfl rfl (e_assign rfl) ?_
    refine stEnd (hK _ [(4, _)] _ _ rfl ?_)
    clear hK K
    refine W.ret ?_
    refine thenR ?_
    refine ⟨.inr rfl, Ends.v0 (by repeat (first | exact self_old | assumption | refine set_old ?_ (by omega))) hfresh (by first | rfl | (simp [ltT, ltA, ltC, ltV]; try omega)) (res1 (resT rfl) rfl) ?_⟩
    first | rfl | (congr 1 <;> split <;> omega)
  ·
    try simp only [decide_eq_true_eq, decide_eq_false_iff_not, Bool.not_eq_true', Bool.not_eq_false', Bool.not_eq_true, Bool.not_eq_false] at hb1
    refine stEnd (hK _ [(1, _), (10, _)] _ _ rfl ?_)
    clear hK K
    refine W.condF rfl ?_
    refine W.skip ?_
    refine thenN ?_
    refine W.sR [4] fun K hK => ?_
    refine st rfl rfl (e_move rfl) ?_
    refine st rfl rfl (e_assign rfl) ?_
    refine stEnd (hK _ [(4, _)] _ _ rfl ?_)
    clear hK K
    refine W.ret ?_
    refine ⟨.inr rfl, Ends.v0 (by repeat (first | exact self_old | assumption | refine set_old ?_ (by omega))) hfresh (by first | rfl | (simp [ltT, ltA, ltC, ltV]; try omega)) (res1 (resT rfl) rfl) ?_⟩
    first | rfl | (congr 1 <;> split <;> omega)
theorem laws_szShadow_s (X Y Z : Int) (p0 p1 p2 : Option Addr) (m0 m1 m2 e0 e1 e2 : Nat) (left : Int) (H : Heap) (n : Nat) (hm : m0 ≤ 9223372036854775807 ∧ m1 ≤ 9223372036854775807 ∧ m2 ≤ 9223372036854775807 ∧ 0 ≤ left ∧ left ≤ 1073741824) : Fn Try.prog 20 [.agg #[.int .i64 X, .int .i64 Y, .int .i64 Z, .slice p0 m0 e0, .slice p1 m1 e1, .slice p2 m2 e2], .int .i64 left] H n (.int .i64 (if left - (m0 : Int) - (m1 : Int) - (m2 : Int) < 0 then -1 else left - (m0 : Int) - (m1 : Int) - (m2 : Int))) (H) (n) := by
  refine Fn.intro' Try.func20 rfl (by kernel_rfl) Try.ntmps20 (by simp) (by omega) fun hfresh => ?_
  show W _ _ _ ⟨[(0, _), (1, _)], _, _⟩ _
  refine W.sR [1, 2] fun K hK => ?_
  refine st rfl rfl (e_boxA rfl) ?_
  refine st rfl rfl (e_assign rfl) ?_
  refine stEnd (hK _ [(1, _), (2, _)] _ _ rfl ?_)
  clear hK K
  refine W.sR [1, 2] fun K hK => ?_
  refine st rfl rfl (e_fieldAddr t34 t32 rfl rfl) ?_
  refine st rfl rfl (e_load1 t32 rfl rfl (by repeat (first | exact look_same | assumption | refine look_ne (by omega) ?_)) rfl) ?_
  refine st rfl rfl (e_move rfl) ?_
  refine stC rfl rfl rfl (laws_szIntS_s _ _ _ _ _ _ (by omega)) ?_
  generalize h0 : (if left - (m0 : Int) < 0 then -1 else left - (m0 : Int)) = l0
  have g0 : l0 = -1 ∧ left - (m0 : Int) < 0 ∨ l0 = left - (m0 : Int) ∧ 0 ≤ left - (m0 : Int) := by subst h0; split <;> omega
  refine st rfl rfl (e_assign rfl) ?_
  refine stEnd (hK _ [(1, _), (2, _)] _ _ rfl ?_)
  clear hK K
  refine W.seq ?_
  refine W.sR [1, 2, 10] fun K hK => ?_
  refine st rfl rfl (e_move rfl) ?_
  refine st rfl rfl (e_lss rfl rfl) ?_
  refine stB (fun hb1 => ?_) (fun hb1 => ?_)
  ·
    try simp only [decide_eq_true_eq, decide_eq_false_iff_not, Bool.not_eq_true', Bool.not_eq_false', Bool.not_eq_true, Bool.not_eq_false] at hb1
    refine stEnd (hK _ [(1, _), (2, _), (10, _)] _ _ rfl ?_)
    clear hK K
    refine W.condT rfl ?_
    refine W.sR [4] fun K hK => ?_
    refine st rfl rfl (e_assign rfl) ?_
    refine stEnd (hK _ [(4, _)] _ _ rfl ?_)
    clear hK K
    refine W.ret ?_
    refine thenR ?_
    refine ⟨.inr rfl, Ends.v0 (by repeat (first | exact self_old | assumption | refine set_old ?_ (by omega))) hfresh (by first | rfl | (simp [ltT, ltA, ltC, ltV]; try omega)) (res1 (resT rfl) rfl) ?_⟩
    (congr 1; split <;> omega)
  ·
    try simp only [decide_eq_true_eq, decide_eq_false_iff_not, Bool.not_eq_true', Bool.not_eq_false', Bool.not_eq_true, Bool.not_eq_false] at hb1
    refine stEnd (hK _ [(1, _), (2, _), (10, _)] _ _ rfl ?_)
    clear hK K
    refine W.condF rfl ?_
    refine W.skip ?_
    refine thenN ?_
    refine W.sR [1, 2] fun K hK => ?_
    refine st rfl rfl (e_fieldAddr t34 t32 rfl rfl) ?_
    refine st rfl rfl (e_load1 t32 rfl rfl (by repeat (first | exact look_same | assumption | refine look_ne (by omega) ?_)) rfl) ?_
    refine st rfl rfl (e_move rfl) ?_
    refine stC rfl rfl rfl (laws_szIntS_s _ _ _ _ _ _ (by omega)) ?_
    generalize h1 : (if l0 - (m1 : Int) < 0 then -1 else l0 - (m1 : Int)) = l1
    have g1 : l1 = -1 ∧ l0 - (m1 : Int) < 0 ∨ l1 = l0 - (m1 : Int) ∧ 0 ≤ l0 - (m1 : Int) := by subst h1; split <;> omega
    refine st rfl rfl (e_assign rfl) ?_
    refine stEnd (hK _ [(1, _), (2, _)] _ _ rfl ?_)
    clear hK K
    refine W.seq ?_
    refine W.sR [1, 2, 16] fun K hK => ?_
    refine st rfl rfl (e_move rfl) ?_
    refine st rfl rfl (e_lss rfl rfl) ?_
    refine stB (fun hb2 => ?_) (fun hb2 => ?_)
    ·
      try simp only [decide_eq_true_eq, decide_eq_false_iff_not, Bool.not_eq_true', Bool.not_eq_false', Bool.not_eq_true, Bool.not_eq_false] at hb2
      refine stEnd (hK _ [(1, _), (2, _), (16, _)] _ _ rfl ?_)
      clear hK K
      refine W.condT rfl ?_
      refine W.sR [4] fun K hK => ?_
      refine st rfl rfl (e_assign rfl) ?_
      refine stEnd (hK _ [(4, _)] _ _ rfl ?_)
      clear hK K
      refine W.ret ?_
      refine thenR ?_
      refine ⟨.inr rfl, Ends.v0 (by repeat (first | exact self_old | assumption | refine set_old ?_ (by omega))) hfresh (by first | rfl | (simp [ltT, ltA, ltC, ltV]; try omega)) (res1 (resT rfl) rfl) ?_⟩
      (congr 1; split <;> omega)
    ·
      try simp only [decide_eq_true_eq, decide_eq_false_iff_not, Bool.not_eq_true', Bool.not_eq_false', Bool.not_eq_true, Bool.not_eq_false] at hb2
      refine stEnd (hK _ [(1, _), (2, _), (16, _)] _ _ rfl ?_)
      clear hK K
      refine W.condF rfl ?_
      refine W.skip ?_
      refine thenN ?_
      refine W.sR [1] fun K hK => ?_
      refine st rfl rfl (e_fieldAddr t34 t32 rfl rfl) ?_
      refine st rfl rfl (e_load1 t32 rfl rfl (by repeat (first | exact look_same | assumption | refine look_ne (by omega) ?_)) rfl) ?_
      refine st rfl rfl (e_move rfl) ?_
      refine stC rfl rfl rfl (laws_szIntS_s _ _ _ _ _ _ (by omega)) ?_
      generalize h2 : (if l1 - (m2 : Int) < 0 then -1 else l1 - (m2 : Int)) = l2
      have g2 : l2 = -1 ∧ l1 - (m2 : Int) < 0 ∨ l2 = l1 - (m2 : Int) ∧ 0 ≤ l1 - (m2 : Int) := by subst h2; split <;> omega
      refine st rfl rfl (e_assign rfl) ?_
      refine stEnd (hK _ [(1, _)] _ _ rfl ?_)
      clear hK K
      refine W.seq ?_
      refine W.sR [1, 22] fun K hK => ?_
      refine st rfl rfl (e_move rfl) ?_
      refine st rfl rfl (e_lss rfl rfl) ?_
      refine stB (fun hb3 => ?_) (fun hb3 => ?_)
      ·
        try simp only [decide_eq_true_eq, decide_eq_false_iff_not, Bool.not_eq_true', Bool.not_eq_false', Bool.not_eq_true, Bool.not_eq_false] at hb3
        refine stEnd (hK _ [(1, _), (22, _)] _ _ rfl ?_)
        clear hK K
        refine W.condT rfl ?_
        refine W.sR [4] fun K hK => ?_
        refine st rfl rfl (e_assign rfl) ?_
        refine stEnd (hK _ [(4, _)] _ _ rfl ?_)
        clear hK K
        refine W.ret ?_
        refine thenR ?_
        refine ⟨.inr rfl, Ends.v0 (by repeat (first | exact self_old | assumption | refine set_old ?_ (by omega))) hfresh (by first | rfl | (simp [ltT, ltA, ltC, ltV]; try omega)) (res1 (resT rfl) rfl) ?_⟩
        (congr 1; split <;> omega)
      ·
        try simp only [decide_eq_true_eq, decide_eq_false_iff_not, Bool.not_eq_true', Bool.not_eq_false', Bool.not_eq_true, Bool.not_eq_false] at hb3
        refine stEnd (hK _ [(1, _), (22, _)] _ _ rfl ?_)
        clear hK K
        refine W.condF rfl ?_
        refine W.skip ?_
        refine thenN ?_
        refine W.sR [4] fun K hK => ?_
        refine st rfl rfl (e_move rfl) ?_
        refine st rfl rfl (e_assign rfl) ?_
        refine stEnd (hK _ [(4, _)] _ _ rfl ?_)
        clear hK K
        refine W.ret ?_
        refine ⟨.inr rfl, Ends.v0 (by repeat (first | exact self_old | assumption | refine set_old ?_ (by omega))) hfresh (by first | rfl | (simp [ltT, ltA, ltC, ltV]; try omega)) (res1 (resT rfl) rfl) ?_⟩
        (congr 1; split <;> omega)
theorem laws_toIntS_nil_s  (H : Heap) (n : Nat) : Fn Try.prog 71 [.slice none 0 2] H n (.slice (some ⟨n, 0, none⟩) 0 1) (H.set n (.cells false [])) (n + 1) := by
  refine Fn.intro' Try.func71 rfl (by kernel_rfl) Try.ntmps71 (by simp) (by omega) fun hfresh => ?_
  show W _ _ _ ⟨[(0, _)], _, _⟩ _
  refine W.sR [0] fun K hK => ?_
  refine st rfl rfl (e_assign rfl) ?_
  refine stEnd (hK _ [(0, _)] _ _ rfl ?_)
  clear hK K
  refine W.sR [0, 3] fun K hK => ?_
  refine st rfl rfl (e_move rfl) ?_
  refine st rfl rfl (e_len t32 rfl) ?_
  refine st rfl rfl (e_make t32 t3 rfl rfl (by decide) (by omega) (m := 0)) ?_
  refine st rfl rfl (e_assign rfl) ?_
  refine stEnd (hK _ [(0, _), (3, _)] _ _ rfl ?_)
  clear hK K
  refine W.seq ?_
  refine W.sR [0, 3, 4] fun K hK => ?_
  refine st rfl rfl (e_assign rfl) ?_
  refine stEnd (hK _ [(0, _), (3, _), (4, _)] _ _ rfl ?_)
  clear hK K
  refine W.block ?_
  refine W.ord [4, 0, 3] (ts' := [(4, _)] ++ [(0, _), (3, _)]) rfl ?_
  refine W.loopC [(4, _)] [n] (fun κ V G μ => V = [(4, .int .i64 0)] ∧ κ = 0 ∧ (G n = some (.cells false []))) _ ⟨rfl, rfl, look_same⟩ fun κ V G μ hinv hμ hkeep hfr => ?_
  obtain ⟨rfl, rfl, hG⟩ := hinv
  refine W.seq ?_
  refine W.sR [0, 3, 4, 11] fun K hK => ?_
  refine st rfl rfl (e_move rfl) ?_
  refine st rfl rfl (e_move rfl) ?_
  refine st rfl rfl (e_len t32 rfl) ?_
  refine st rfl rfl (e_lss rfl rfl) ?_
  refine stB (fun hz => ?_) (fun hz => ?_)
  ·
    exact absurd hz (by simp)
  ·
    try simp only [decide_eq_true_eq, decide_eq_false_iff_not, Bool.not_eq_true', Bool.not_eq_false', Bool.not_eq_true, Bool.not_eq_false] at hz
    refine stEnd (hK _ [(0, _), (3, _), (4, _), (11, _)] _ _ rfl ?_)
    clear hK K
    refine W.condF rfl ?_
    refine W.exit ?_
    refine thenE ?_
    refine thenE ?_
    refine blockX ?_
    refine thenN ?_
    refine W.sR [2] fun K hK => ?_
    refine st rfl rfl (e_move rfl) ?_
    refine st rfl rfl (e_assign rfl) ?_
    refine stEnd (hK _ [(2, _)] _ _ rfl ?_)
    clear hK K
    refine W.ret ?_
    refine ⟨.inr rfl, Ends.v1 (n) (by omega) (by repeat (first | exact self_old | assumption | refine set_old ?_ (by omega) | refine keep_old (by assumption) ?_ (by omega) (by simp; try omega))) hfresh (by repeat (first | exact look_same | assumption | refine look_ne (by omega) ?_ | refine look_keep (by assumption) (by omega) (by simp; try omega) ?_)) ?_ rfl (by simp [ltT, ltA, ltC, ltV]; try omega) (res1 (resT rfl) rfl) ?_⟩
    · rfl
    · first | rfl | simp [renT, renV, renC, renA, one]
theorem laws_toIntS_s (b : Nat) (ro : Bool) (zs : List Int) (H : Heap) (n : Nat) (hb : H b = some (.cells ro (ints zs))) (hlen : zs.length ≤ 1048576) : Fn Try.prog 71 [.slice (some ⟨b, 0, none⟩) zs.length 1] H n (.slice (some ⟨n, 0, none⟩) (zs).length 1) (H.set n (.cells false (ints zs))) (n + 1) := by
  refine Fn.intro' Try.func71 rfl (by kernel_rfl) Try.ntmps71 (by simp) (by omega) fun hfresh => ?_
  have lt_hb := lt_fresh hfresh hb
  show W _ _ _ ⟨[(0, _)], _, _⟩ _
  refine W.sR [0] fun K hK => ?_
  refine st rfl rfl (e_assign rfl) ?_
  refine stEnd (hK _ [(0, _)] _ _ rfl ?_)
  clear hK K
  refine W.sR [0, 3] fun K hK => ?_
  refine st rfl rfl (e_move rfl) ?_
  refine st rfl rfl (e_len t32 rfl) ?_
  refine st rfl rfl (e_make t32 t3 rfl rfl (by decide) (by omega)) ?_
  refine st rfl rfl (e_assign rfl) ?_
  refine stEnd (hK _ [(0, _), (3, _)] _ _ rfl ?_)
  clear hK K
  refine W.seq ?_
  refine W.sR [0, 3, 4] fun K hK => ?_
  refine st rfl rfl (e_assign rfl) ?_
  refine stEnd (hK _ [(0, _), (3, _), (4, _)] _ _ rfl ?_)
  clear hK K
  refine W.block ?_
  refine W.ord [4, 0, 3] (ts' := [(4, _)] ++ [(0, _), (3, _)]) rfl ?_
  refine W.loopC [(4, _)] [n] (fun κ V G μ => ∃ i : Nat, V = [(4, .int .i64 (i : Nat))] ∧ κ = zs.length - i ∧ (i ≤ zs.length) ∧ (G n = some (.cells false (ints (copyI zs i))))) _ ⟨0, rfl, rfl, (by first | omega | assumption | rfl | simp_all), (by rw [copyI_zero, ← zeros_ints]; exact look_same)⟩ fun κ V G μ hinv hμ hkeep hfr => ?_
  obtain ⟨i, rfl, rfl, hi, hG⟩ := hinv
  refine W.seq ?_
  refine W.sR [0, 3, 4, 11] fun K hK => ?_
  refine st rfl rfl (e_move rfl) ?_
  refine st rfl rfl (e_move rfl) ?_
  refine st rfl rfl (e_len t32 rfl) ?_
  refine st rfl rfl (e_lss rfl rfl) ?_
  refine stB (fun hb1 => ?_) (fun hb1 => ?_)
  ·
    try simp only [decide_eq_true_eq, decide_eq_false_iff_not, Bool.not_eq_true', Bool.not_eq_false', Bool.not_eq_true, Bool.not_eq_false] at hb1
    refine stEnd (hK _ [(0, _), (3, _), (4, _), (11, _)] _ _ rfl ?_)
    clear hK K
    refine W.condT rfl ?_
    refine W.skip ?_
    refine thenN ?_
    refine W.seq ?_
    refine W.block ?_
    refine W.rR [0, 3, 4] fun K hK => ?_
    refine st rfl rfl (e_move rfl) ?_
    refine st rfl rfl (e_move rfl) ?_
    refine st rfl rfl (e_move rfl) ?_
    refine st rfl rfl (e_move rfl) ?_
    refine st rfl rfl (e_idxSK _ t32 t3 rfl rfl rfl (by first | omega | decide)) ?_
    refine st rfl rfl (e_load1 t3 rfl rfl (by repeat (first | exact look_same | assumption | refine look_ne (by omega) ?_ | refine look_keep (by assumption) (by omega) (by simp; try omega) ?_)) (ints_at (by omega))) ?_
    refine st rfl rfl (e_idxSK _ t32 t3 rfl rfl rfl (by omega)) ?_
    refine stN rfl (e_store1 t3 rfl rfl rfl (by repeat (first | exact look_same | assumption | refine look_ne (by omega) ?_ | refine look_keep (by assumption) (by omega) (by simp; try omega) ?_)) (by rw [ints_length, copyI_length (by omega)]; omega)) ?_
    refine stEnd (hK _ [(0, _), (3, _), (4, _)] _ _ rfl ?_)
    clear hK K
    refine blockN ?_
    refine thenN ?_
    refine W.rR [4, 0, 3] fun K hK => ?_
    refine st rfl rfl (e_move rfl) ?_
    refine st rfl rfl (e_add rfl rfl (inB _ (by omega))) ?_
    refine st rfl rfl (e_assign rfl) ?_
    refine stEnd (hK _ [(4, _), (0, _), (3, _)] _ _ rfl ?_)
    clear hK K
    exact roundN (V' := [(4, _)]) [4, 0, 3] rfl (by omega) (by repeat (first | exact Keeps.refl _ _ _ | assumption | refine Keeps.trans ?_ (by assumption) (by omega) (by simp; try omega) | refine Keeps.set ?_ (by first | exact Or.inl (by omega) | (simp; done) | (simp; omega)) | refine Keeps.del ?_ (by first | exact Or.inl (by omega) | (simp; done) | (simp; omega)))) _ (by omega) ⟨i + 1, rfl, rfl, (by first | omega | assumption | simp_all), (look_same.trans (congrArg some (congrArg (Blk.cells false) (ints_set.trans (congrArg ints (copyI_set (by omega)))))))⟩
  ·
    try simp only [decide_eq_true_eq, decide_eq_false_iff_not, Bool.not_eq_true', Bool.not_eq_false', Bool.not_eq_true, Bool.not_eq_false] at hb1
    refine stEnd (hK _ [(0, _), (3, _), (4, _), (11, _)] _ _ rfl ?_)
    clear hK K
    refine W.condF rfl ?_
    refine W.exit ?_
    refine thenE ?_
    refine thenE ?_
    refine blockX ?_
    refine thenN ?_
    refine W.sR [2] fun K hK => ?_
    refine st rfl rfl (e_move rfl) ?_
    refine st rfl rfl (e_assign rfl) ?_
    refine stEnd (hK _ [(2, _)] _ _ rfl ?_)
    clear hK K
    refine W.ret ?_
    refine ⟨.inr rfl, Ends.v1 (n) (by omega) (by repeat (first | exact self_old | assumption | refine set_old ?_ (by omega) | refine keep_old (by assumption) ?_ (by omega) (by simp; try omega))) hfresh (by repeat (first | exact look_same | assumption | refine look_ne (by omega) ?_ | refine look_keep (by assumption) (by omega) (by simp; try omega) ?_)) ?_ (by first | exact flat_plain _ | exact ints_plain _) (by simp [ltT, ltA, ltC, ltV]; try omega) (res1 (resT rfl) rfl) ?_⟩
    · (obtain rfl : i = zs.length := by omega); rw [copyI_all]
    · first | rfl | simp [renT, renV, renC, renA, one]
theorem laws_toIntS_row_s (sv : Value) (zs : List Int) (r : Nat) (H : Heap) (n : Nat) (hr : RowI H r sv zs) (hlen : zs.length ≤ 1048576) : Fn Try.prog 71 [sv] H n (.slice (some ⟨n, 0, none⟩) zs.length 1) (H.set n (.cells false (ints zs))) (n + 1) := by
  rcases hr with ⟨rfl, rfl⟩ | ⟨b, _, rfl, hb⟩
  · exact laws_toIntS_nil_s H n
  · exact laws_toIntS_s b true zs H n hb hlen
theorem laws_toShadow_s (X Y Z : Int) (s0 s1 s2 : Value) (x0 x1 x2 : List Int) (r : Nat) (H : Heap) (n : Nat) (hr0 : RowI H r s0 x0) (hr1 : RowI H r s1 x1) (hr2 : RowI H r s2 x2) (hrn : r ≤ n) (hl0 : x0.length ≤ 1048576) (hl1 : x1.length ≤ 1048576) (hl2 : x2.length ≤ 1048576) : Fn Try.prog 22 [.agg #[.int .i64 X, .int .i64 Y, .int .i64 Z, s0, s1, s2]] H n (.agg #[.int .i64 X, .int .i64 Y, .int .i64 Z, .slice (some ⟨n, 0, none⟩) x0.length 1, .slice (some ⟨n + 1, 0, none⟩) x1.length 1, .slice (some ⟨n + 1 + 1, 0, none⟩) x2.length 1]) (((H.set n (.cells false (ints x0))).set (n + 1) (.cells false (ints x1))).set (n + 1 + 1) (.cells false (ints x2))) (n + 1 + 1 + 1) := by
  refine Fn.intro' Try.func22 rfl (by kernel_rfl) Try.ntmps22 (by simp) (by omega) fun hfresh => ?_
  obtain ⟨p0, e0, rfl⟩ := hr0.form
  obtain ⟨p1, e1, rfl⟩ := hr1.form
  obtain ⟨p2, e2, rfl⟩ := hr2.form
  show W _ _ _ ⟨[(0, _)], _, _⟩ _
  refine W.sR [1, 2] fun K hK => ?_
  refine st rfl rfl (e_boxA rfl) ?_
  refine st rfl rfl (e_alloc t38 rfl) ?_
  refine stEnd (hK _ [(1, _), (2, _)] _ _ rfl ?_)
  clear hK K
  refine W.sR [1, 2, 3] fun K hK => ?_
  refine st rfl rfl (e_alloc t38 rfl) ?_
  refine stEnd (hK _ [(1, _), (2, _), (3, _)] _ _ rfl ?_)
  clear hK K
  refine W.sR [1, 2, 3] fun K hK => ?_
  refine st rfl rfl (e_fieldAddr t34 t3 rfl rfl) ?_
  refine st rfl rfl (e_load1 t3 rfl rfl (by repeat (first | exact look_same | assumption | refine look_ne (by omega) ?_)) rfl) ?_
  refine st rfl rfl (e_fieldAddr t38 t3 rfl rfl) ?_
  refine stN rfl (e_store1 t3 rfl rfl rfl (by repeat (first | exact look_same | assumption | refine look_ne (by omega) ?_)) (by first | decide | (simp only [ints_length, flat_length]; omega) | (simp; done) | (simp; omega))) ?_
  refine stEnd (hK _ [(1, _), (2, _), (3, _)] _ _ rfl ?_)
  clear hK K
  refine W.sR [1, 2, 3] fun K hK => ?_
  refine st rfl rfl (e_fieldAddr t34 t3 rfl rfl) ?_
  refine st rfl rfl (e_load1 t3 rfl rfl (by repeat (first | exact look_same | assumption | refine look_ne (by omega) ?_)) rfl) ?_
  refine st rfl rfl (e_fieldAddr t38 t3 rfl rfl) ?_
  refine stN rfl (e_store1 t3 rfl rfl rfl (by repeat (first | exact look_same | assumption | refine look_ne (by omega) ?_)) (by first | decide | (simp only [ints_length, flat_length]; omega) | (simp; done) | (simp; omega))) ?_
  refine stEnd (hK _ [(1, _), (2, _), (3, _)] _ _ rfl ?_)
  clear hK K
  refine W.sR [1, 2, 3] fun K hK => ?_
  refine st rfl rfl (e_fieldAddr t34 t3 rfl rfl) ?_
  refine st rfl rfl (e_load1 t3 rfl rfl (by repeat (first | exact look_same | assumption | refine look_ne (by omega) ?_)) rfl) ?_
  refine st rfl rfl (e_fieldAddr t38 t3 rfl rfl) ?_
  refine stN rfl (e_store1 t3 rfl rfl rfl (by repeat (first | exact look_same | assumption | refine look_ne (by omega) ?_)) (by first | decide | (simp only [ints_length, flat_length]; omega) | (simp; done) | (simp; omega))) ?_
  refine stEnd (hK _ [(1, _), (2, _), (3, _)] _ _ rfl ?_)
  clear hK K
  refine W.sR [1, 2, 3] fun K hK => ?_
  refine st rfl rfl (e_fieldAddr t34 t32 rfl rfl) ?_
  refine st rfl rfl (e_load1 t32 rfl rfl (by repeat (first | exact look_same | assumption | refine look_ne (by omega) ?_)) rfl) ?_
  refine stC rfl rfl rfl (laws_toIntS_row_s _ x0 r _ _ (RowI.keep hr0 (Nat.le_refl _) (by repeat (first | exact self_old | assumption | refine set_old ?_ (by omega)))) (by omega)) ?_
  refine st rfl rfl (e_fieldAddr t38 t32 rfl rfl) ?_
  refine stN rfl (e_store1 t32 rfl rfl rfl (by repeat (first | exact look_same | assumption | refine look_ne (by omega) ?_)) (by first | decide | (simp only [ints_length, flat_length]; omega) | (simp; done) | (simp; omega))) ?_
  refine stEnd (hK _ [(1, _), (2, _), (3, _)] _ _ rfl ?_)
  clear hK K
  refine W.sR [1, 2, 3] fun K hK => ?_
  refine st rfl rfl (e_fieldAddr t34 t32 rfl rfl) ?_
  refine st rfl rfl (e_load1 t32 rfl rfl (by repeat (first | exact look_same | assumption | refine look_ne (by omega) ?_)) rfl) ?_
  refine stC rfl rfl rfl (laws_toIntS_row_s _ x1 r _ _ (RowI.keep hr1 (Nat.le_refl _) (by repeat (first | exact self_old | assumption | refine set_old ?_ (by omega)))) (by omega)) ?_
  refine st rfl rfl (e_fieldAddr t38 t32 rfl rfl) ?_
  refine stN rfl (e_store1 t32 rfl rfl rfl (by repeat (first | exact look_same | assumption | refine look_ne (by omega) ?_)) (by first | decide | (simp only [ints_length, flat_length]; omega) | (simp; done) | (simp; omega))) ?_
  refine stEnd (hK _ [(1, _), (2, _), (3, _)] _ _ rfl ?_)
  clear hK K
  refine W.sR [2, 3] fun K hK => ?_
  refine st rfl rfl (e_fieldAddr t34 t32 rfl rfl) ?_
  refine st rfl rfl (e_load1 t32 rfl rfl (by repeat (first | exact look_same | assumption | refine look_ne (by omega) ?_)) rfl) ?_
  refine stC rfl rfl rfl (laws_toIntS_row_s _ x2 r _ _ (RowI.keep hr2 (Nat.le_refl _) (by repeat (first | exact self_old | assumption | refine set_old ?_ (by omega)))) (by omega)) ?_
  refine st rfl rfl (e_fieldAddr t38 t32 rfl rfl) ?_
  refine stN rfl (e_store1 t32 rfl rfl rfl (by repeat (first | exact look_same | assumption | refine look_ne (by omega) ?_)) (by first | decide | (simp only [ints_length, flat_length]; omega) | (simp; done) | (simp; omega))) ?_
  refine stEnd (hK _ [(2, _), (3, _)] _ _ rfl ?_)
  clear hK K
  refine W.sR [2] fun K hK => ?_
  refine st rfl rfl (e_loadA t38 rfl rfl (by repeat (first | exact look_same | assumption | refine look_ne (by omega) ?_)) rfl rfl) ?_
  refine stN rfl (e_storeA t38 rfl rfl (by repeat (first | exact look_same | assumption | refine look_ne (by omega) ?_)) rfl rfl rfl (by decide)) ?_
  refine stEnd (hK _ [(2, _)] _ _ rfl ?_)
  clear hK K
  refine W.ret ?_
  refine ⟨.inr rfl, Ends.v3 (n + 1 + 1 + 1) (n + 1 + 1 + 1 + 1) (n + 1 + 1 + 1 + 1 + 1) (by omega) (by repeat (first | exact self_old | assumption | refine set_old ?_ (by omega))) hfresh (by repeat (first | exact look_same | assumption | refine look_ne (by omega) ?_)) (by repeat (first | exact look_same | assumption | refine look_ne (by omega) ?_)) (by repeat (first | exact look_same | assumption | refine look_ne (by omega) ?_)) ⟨ints_plain _, ints_plain _, ints_plain _⟩ (by simp [ltT, ltA, ltC, ltV]; try omega) (res1 (resC t38 rfl rfl (by repeat (first | exact look_same | assumption | refine look_ne (by omega) ?_)) rfl rfl) rfl) ?_ ?_⟩
  · exact ⟨rfl, rfl, rfl⟩
  · simp [renT, renV, renC, renA, nm0, nm1, nm2, pick3]
theorem spec_l1In_s (a b c : Int) (H : Heap) (n : Nat) : Fn Try.prog 78 [.int .i64 a, .int .i64 b, .int .i64 c] H n (.bool (within a b c)) (H) (n) := by
  refine Fn.intro' Try.func78 rfl (by kernel_rfl) Try.ntmps78 (by simp) (by omega) fun hfresh => ?_
  show W _ _ _ ⟨[(0, _), (1, _), (2, _)], _, _⟩ _
  refine W.sR [0, 1, 2] fun K hK => ?_
  refine st rfl rfl (e_assign rfl) ?_
  refine stEnd (hK _ [(0, _), (1, _), (2, _)] _ _ rfl ?_)
  clear hK K
  refine W.sR [6] fun K hK => ?_
  refine st rfl rfl (e_move rfl) ?_
  refine st rfl rfl (e_move rfl) ?_
  refine st rfl rfl (e_geq rfl rfl) ?_
  refine st rfl rfl (e_move rfl) ?_
  refine stB (fun hb1 => ?_) (fun hb1 => ?_)
  ·
    try simp only [decide_eq_true_eq, decide_eq_false_iff_not, Bool.not_eq_true', Bool.not_eq_false', Bool.not_eq_true, Bool.not_eq_false] at hb1
    refine st rfl rfl (e_move rfl) ?_
    refine st rfl rfl (e_move rfl) ?_
    refine st rfl rfl (e_leq rfl rfl) ?_
    refine st rfl rfl (e_pickT rfl rfl) ?_
    refine st rfl rfl (e_assign rfl) ?_
    refine stEnd (hK _ [(6, _)] _ _ rfl ?_)
    clear hK K
    refine W.ret ?_
    refine ⟨.inr rfl, Ends.v0 (by repeat (first | exact self_old | assumption | refine set_old ?_ (by omega))) hfresh (by first | rfl | (simp [ltT, ltA, ltC, ltV]; try omega)) (res1 (resT rfl) rfl) ?_⟩
    simp [within, *] <;> omega
  ·
    try simp only [decide_eq_true_eq, decide_eq_false_iff_not, Bool.not_eq_true', Bool.not_eq_false', Bool.not_eq_true, Bool.not_eq_false] at hb1
    refine stS rfl rfl ?_
    refine stS rfl rfl ?_
    refine stS rfl rfl ?_
    refine st rfl rfl (e_pickF rfl rfl) ?_
    refine st rfl rfl (e_assign rfl) ?_
    refine stEnd (hK _ [(6, _)] _ _ rfl ?_)
    clear hK K
    refine W.ret ?_
    refine ⟨.inr rfl, Ends.v0 (by repeat (first | exact self_old | assumption | refine set_old ?_ (by omega))) hfresh (by first | rfl | (simp [ltT, ltA, ltC, ltV]; try omega)) (res1 (resT rfl) rfl) ?_⟩
    simp [within, *] <;> omega
theorem spec_l2Sides_s (X Y Z : Int) (H : Heap) (n : Nat) : Fn Try.prog 114 [.int .i64 X, .int .i64 Y, .int .i64 Z] H n (.bool (sides X Y Z)) (H) (n) := by
  refine Fn.intro' Try.func114 rfl (by kernel_rfl) Try.ntmps114 (by simp) (by omega) fun hfresh => ?_
  show W _ _ _ ⟨[(0, _), (1, _), (2, _)], _, _⟩ _
  refine W.sR [0, 1, 2] fun K hK => ?_
  refine st rfl rfl (e_assign rfl) ?_
  refine stEnd (hK _ [(0, _), (1, _), (2, _)] _ _ rfl ?_)
  clear hK K
  refine W.sR [6] fun K hK => ?_
  refine st rfl rfl (e_move rfl) ?_
  refine stC rfl rfl rfl (spec_l1In_s _ _ _ _ _ ) ?_
  refine st rfl rfl (e_move rfl) ?_
  refine stB (fun hb1 => ?_) (fun hb1 => ?_)
  ·
    try simp only [decide_eq_true_eq, decide_eq_false_iff_not, Bool.not_eq_true', Bool.not_eq_false', Bool.not_eq_true, Bool.not_eq_false] at hb1
    refine st rfl rfl (e_move rfl) ?_
    refine stC rfl rfl rfl (spec_l1In_s _ _ _ _ _ ) ?_
    refine st rfl rfl (e_pickT rfl rfl) ?_
    refine st rfl rfl (e_move rfl) ?_
    refine stB (fun hb2 => ?_) (fun hb2 => ?_)
    ·
      try simp only [decide_eq_true_eq, decide_eq_false_iff_not, Bool.not_eq_true', Bool.not_eq_false', Bool.not_eq_true, Bool.not_eq_false] at hb2
      refine st rfl rfl (e_move rfl) ?_
      refine stC rfl rfl rfl (spec_l1In_s _ _ _ _ _ ) ?_
      refine st rfl rfl (e_pickT rfl rfl) ?_
      refine st rfl rfl (e_assign rfl) ?_
      refine stEnd (hK _ [(6, _)] _ _ rfl ?_)
      clear hK K
      refine W.ret ?_
      refine ⟨.inr rfl, Ends.v0 (by repeat (first | exact self_old | assumption | refine set_old ?_ (by omega))) hfresh (by first | rfl | (simp [ltT, ltA, ltC, ltV]; try omega)) (res1 (resT rfl) rfl) ?_⟩
      simp_all [sides]
    ·
      try simp only [decide_eq_true_eq, decide_eq_false_iff_not, Bool.not_eq_true', Bool.not_eq_false', Bool.not_eq_true, Bool.not_eq_false] at hb2
      refine stS rfl rfl ?_
      refine stS rfl rfl ?_
      refine st rfl rfl (e_pickF rfl rfl) ?_
      refine st rfl rfl (e_assign rfl) ?_
      refine stEnd (hK _ [(6, _)] _ _ rfl ?_)
      clear hK K
      refine W.ret ?_
      refine ⟨.inr rfl, Ends.v0 (by repeat (first | exact self_old | assumption | refine set_old ?_ (by omega))) hfresh (by first | rfl | (simp [ltT, ltA, ltC, ltV]; try omega)) (res1 (resT rfl) rfl) ?_⟩
      simp_all [sides]
  ·
    try simp only [decide_eq_true_eq, decide_eq_false_iff_not, Bool.not_eq_true', Bool.not_eq_false', Bool.not_eq_true, Bool.not_eq_false] at hb1
    refine stS rfl rfl ?_
    refine stS rfl rfl ?_
    refine st rfl rfl (e_pickF rfl rfl) ?_
    refine st rfl rfl (e_move rfl) ?_
    refine stS rfl rfl ?_
    refine stS rfl rfl ?_
    refine st rfl rfl (e_pickF rfl rfl) ?_
    refine st rfl rfl (e_assign rfl) ?_
    refine stEnd (hK _ [(6, _)] _ _ rfl ?_)
    clear hK K
    refine W.ret ?_
    refine ⟨.inr rfl, Ends.v0 (by repeat (first | exact self_old | assumption | refine set_old ?_ (by omega))) hfresh (by first | rfl | (simp [ltT, ltA, ltC, ltV]; try omega)) (res1 (resT rfl) rfl) ?_⟩
    simp_all [sides]
theorem spec_l3Ones_s (b : Nat) (ro : Bool) (zs : List Int) (m : Nat) (H : Heap) (n : Nat) (hb : H b = some (.cells ro (ints zs))) (hlen : zs.length ≤ 1048576) : Fn Try.prog 125 [.slice (some ⟨b, 0, none⟩) zs.length 1, .int .i64 (m : Nat)] H n (.bool (oneB zs m)) (H) (n) := by
  refine Fn.intro' Try.func125 rfl (by kernel_rfl) Try.ntmps125 (by simp) (by omega) fun hfresh => ?_
  have lt_hb := lt_fresh hfresh hb
  show W _ _ _ ⟨[(0, _), (1, _)], _, _⟩ _
  refine W.sR [0, 1] fun K hK => ?_
  refine st rfl rfl (e_assign rfl) ?_
  refine stEnd (hK _ [(0, _), (1, _)] _ _ rfl ?_)
  clear hK K
  refine W.seq ?_
  refine W.sR [0, 1, 5] fun K hK => ?_
  refine st rfl rfl (e_assign rfl) ?_
  refine stEnd (hK _ [(0, _), (1, _), (5, _)] _ _ rfl ?_)
  clear hK K
  refine W.block ?_
  refine W.ord [5, 0, 1] (ts' := [(5, _)] ++ [(0, _), (1, _)]) rfl ?_
  refine W.loopC [(5, _)] [] (fun κ V G μ => ∃ i : Nat, V = [(5, .int .i64 (i : Nat))] ∧ κ = zs.length - i ∧ (i ≤ zs.length) ∧ (∀ j, j < i → within (at1 zs j) 0 1 = true)) _ ⟨0, rfl, rfl, (by first | omega | assumption | rfl | simp_all), (fun j hj => absurd hj (by omega))⟩ fun κ V G μ hinv hμ hkeep hfr => ?_
  obtain ⟨i, rfl, rfl, hi2, hq⟩ := hinv
  refine W.seq ?_
  refine W.sR [0, 1, 5, 9] fun K hK => ?_
  refine st rfl rfl (e_move rfl) ?_
  refine st rfl rfl (e_move rfl) ?_
  refine st rfl rfl (e_len t32 rfl) ?_
  refine st rfl rfl (e_lss rfl rfl) ?_
  refine stB (fun hb1 => ?_) (fun hb1 => ?_)
  ·
    try simp only [decide_eq_true_eq, decide_eq_false_iff_not, Bool.not_eq_true', Bool.not_eq_false', Bool.not_eq_true, Bool.not_eq_false] at hb1
    refine stEnd (hK _ [(0, _), (1, _), (5, _), (9, _)] _ _ rfl ?_)
    clear hK K
    refine W.condT rfl ?_
    refine W.skip ?_
    refine thenN ?_
    refine W.seq ?_
    refine W.block ?_
    refine W.sR [0, 1, 5, 17] fun K hK => ?_
    refine st rfl rfl (e_move rfl) ?_
    refine st rfl rfl (e_move rfl) ?_
    refine st rfl rfl (e_idxSK _ t32 t3 rfl rfl rfl (by first | omega | decide)) ?_
    refine st rfl rfl (e_load1 t3 rfl rfl (by repeat (first | exact look_same | assumption | refine look_ne (by omega) ?_ | refine look_keep (by assumption) (by omega) (by simp; try omega) ?_)) (ints_at (by omega))) ?_
    refine stC rfl rfl rfl (spec_l1In_s _ _ _ _ _ ) ?_
    refine st rfl rfl (e_not rfl) ?_
    refine stB (fun hw => ?_) (fun hw => ?_)
    ·
      try simp only [decide_eq_true_eq, decide_eq_false_iff_not, Bool.not_eq_true', Bool.not_eq_false', Bool.not_eq_true, Bool.not_eq_false] at hw
      refine stEnd (hK _ [(0, _), (1, _), (5, _), (17, _)] _ _ rfl ?_)
      clear hK K
      refine W.condT rfl ?_
      refine W.sR [4] fun K hK => ?_
      refine st rfl rfl (e_assign rfl) ?_
      refine stEnd (hK _ [(4, _)] _ _ rfl ?_)
      clear hK K
      refine W.ret ?_
      refine blockR ?_
      refine thenR ?_
      refine thenR ?_
      refine blockR ?_
      refine thenR ?_
      refine ⟨.inr rfl, Ends.v0 (by repeat (first | exact self_old | assumption | refine set_old ?_ (by omega) | refine keep_old (by assumption) ?_ (by omega) (by simp; try omega))) hfresh (by first | rfl | (simp [ltT, ltA, ltC, ltV]; try omega)) (res1 (resT rfl) rfl) ?_⟩
      rw [oneB_no3 (i := i) (by omega) hw]
    ·
      try simp only [decide_eq_true_eq, decide_eq_false_iff_not, Bool.not_eq_true', Bool.not_eq_false', Bool.not_eq_true, Bool.not_eq_false] at hw
      refine stEnd (hK _ [(0, _), (1, _), (5, _), (17, _)] _ _ rfl ?_)
      clear hK K
      refine W.condF rfl ?_
      refine W.skip ?_
      refine blockN ?_
      refine thenN ?_
      refine W.rR [5, 0, 1] fun K hK => ?_
      refine st rfl rfl (e_move rfl) ?_
      refine st rfl rfl (e_add rfl rfl (inB _ (by omega))) ?_
      refine st rfl rfl (e_assign rfl) ?_
      refine stEnd (hK _ [(5, _), (0, _), (1, _)] _ _ rfl ?_)
      clear hK K
      exact roundN (V' := [(5, _)]) [5, 0, 1] rfl (by omega) (by repeat (first | exact Keeps.refl _ _ _ | assumption | refine Keeps.trans ?_ (by assumption) (by omega) (by simp; try omega) | refine Keeps.set ?_ (by first | exact Or.inl (by omega) | (simp; done) | (simp; omega)) | refine Keeps.del ?_ (by first | exact Or.inl (by omega) | (simp; done) | (simp; omega)))) _ (by omega) ⟨i + 1, rfl, rfl, (by first | omega | assumption | simp_all), (all_succ hq (by assumption))⟩
  ·
    try simp only [decide_eq_true_eq, decide_eq_false_iff_not, Bool.not_eq_true', Bool.not_eq_false', Bool.not_eq_true, Bool.not_eq_false] at hb1
    refine stEnd (hK _ [(0, _), (1, _), (5, _), (9, _)] _ _ rfl ?_)
    clear hK K
    refine W.condF rfl ?_
    refine W.exit ?_
    refine thenE ?_
    refine thenE ?_
    refine blockX ?_
    refine thenN ?_
    refine W.sR [4] fun K hK => ?_
    refine st rfl rfl (e_move rfl) ?_
    refine st rfl rfl (e_len t32 rfl) ?_
    refine st rfl rfl (e_move rfl) ?_
    refine st rfl rfl (e_eql rfl rfl) ?_
    refine st rfl rfl (e_assign rfl) ?_
    refine stEnd (hK _ [(4, _)] _ _ rfl ?_)
    clear hK K
    refine W.ret ?_
    refine ⟨.inr rfl, Ends.v0 (by repeat (first | exact self_old | assumption | refine set_old ?_ (by omega) | refine keep_old (by assumption) ?_ (by omega) (by simp; try omega))) hfresh (by first | rfl | (simp [ltT, ltA, ltC, ltV]; try omega)) (res1 (resT rfl) rfl) ?_⟩
    rw [oneB_fin (fun j hj => hq j (by omega))]
theorem spec_l3Shadow_s (X Y Z : Int) (b0 b1 b2 : Nat) (r0 r1 r2 : Bool) (x0 x1 x2 : List Int) (H : Heap) (n : Nat) (hb0 : H b0 = some (.cells r0 (ints x0))) (hb1 : H b1 = some (.cells r1 (ints x1))) (hb2 : H b2 = some (.cells r2 (ints x2))) (hl0 : x0.length ≤ 1048576) (hl1 : x1.length ≤ 1048576) (hl2 : x2.length ≤ 1048576) : Fn Try.prog 69 [.agg #[.int .i64 X, .int .i64 Y, .int .i64 Z, .slice (some ⟨b0, 0, none⟩) x0.length 1, .slice (some ⟨b1, 0, none⟩) x1.length 1, .slice (some ⟨b2, 0, none⟩) x2.length 1]] H n (.bool (shadB X Y Z x0 x1 x2)) (H) (n) := by
  refine Fn.intro' Try.func69 rfl (by kernel_rfl) Try.ntmps69 (by simp) (by omega) fun hfresh => ?_
  have lt_hb0 := lt_fresh hfresh hb0
  have lt_hb1 := lt_fresh hfresh hb1
  have lt_hb2 := lt_fresh hfresh hb2
  show W _ _ _ ⟨[(0, _)], _, _⟩ _
  refine W.sR [1] fun K hK => ?_
  refine st rfl rfl (e_boxA rfl) ?_
  refine st rfl rfl (e_assign rfl) ?_
  refine stEnd (hK _ [(1, _)] _ _ rfl ?_)
  clear hK K
  refine W.sR [2] fun K hK => ?_
  refine st rfl rfl (e_fieldAddr t38 t3 rfl rfl) ?_
  refine st rfl rfl (e_load1 t3 rfl rfl (by repeat (first | exact look_same | assumption | refine look_ne (by omega) ?_)) rfl) ?_
  refine st rfl rfl (e_fieldAddr t38 t3 rfl rfl) ?_
  refine st rfl rfl (e_load1 t3 rfl rfl (by repeat (first | exact look_same | assumption | refine look_ne (by omega) ?_)) rfl) ?_
  refine st rfl rfl (e_fieldAddr t38 t3 rfl rfl) ?_
  refine st rfl rfl (e_load1 t3 rfl rfl (by repeat (first | exact look_same | assumption | refine look_ne (by omega) ?_)) rfl) ?_
  refine stC rfl rfl rfl (spec_l2Sides_s _ _ _ _ _ ) ?_
  refine st rfl rfl (e_move rfl) ?_
  refine stB (fun hs => ?_) (fun hs => ?_)
  ·
    try simp only [decide_eq_true_eq, decide_eq_false_iff_not, Bool.not_eq_true', Bool.not_eq_false', Bool.not_eq_true, Bool.not_eq_false] at hs
    have hX := sides_bd hs
    have hp2 := (lines_bd hX 2).1
    have hp1 := (lines_bd hX 1).1
    have hp0 := (lines_bd hX 0).1
    simp only [o1, o2, ci] at hp2 hp1 hp0
    simp at hp2 hp1 hp0
    have hm2 := mulXY hX.1 hX.2.1
    have hm1 := mulXY hX.1 hX.2.2
    have hm0 := mulXY hX.2.1 hX.2.2
    refine st rfl rfl (e_fieldAddr t38 t32 rfl rfl) ?_
    refine st rfl rfl (e_load1 t32 rfl rfl (by repeat (first | exact look_same | assumption | refine look_ne (by omega) ?_)) rfl) ?_
    refine st rfl rfl (e_fieldAddr t38 t3 rfl rfl) ?_
    refine st rfl rfl (e_load1 t3 rfl rfl (by repeat (first | exact look_same | assumption | refine look_ne (by omega) ?_)) rfl) ?_
    refine st rfl rfl (e_fieldAddr t38 t3 rfl rfl) ?_
    refine st rfl rfl (e_load1 t3 rfl rfl (by repeat (first | exact look_same | assumption | refine look_ne (by omega) ?_)) rfl) ?_
    refine st rfl rfl (e_mul rfl rfl (inB _ (by omega))) ?_
    rw [hp2]
    refine stC rfl rfl rfl (spec_l3Ones_s _ _ _ _ _ _ (by repeat (first | exact look_same | assumption | refine look_ne (by omega) ?_)) (by omega)) ?_
    refine st rfl rfl (e_pickT rfl rfl) ?_
    refine st rfl rfl (e_move rfl) ?_
    refine stB (fun e2 => ?_) (fun e2 => ?_)
    ·
      try simp only [decide_eq_true_eq, decide_eq_false_iff_not, Bool.not_eq_true', Bool.not_eq_false', Bool.not_eq_true, Bool.not_eq_false] at e2
      refine st rfl rfl (e_fieldAddr t38 t32 rfl rfl) ?_
      refine st rfl rfl (e_load1 t32 rfl rfl (by repeat (first | exact look_same | assumption | refine look_ne (by omega) ?_)) rfl) ?_
      refine st rfl rfl (e_fieldAddr t38 t3 rfl rfl) ?_
      refine st rfl rfl (e_load1 t3 rfl rfl (by repeat (first | exact look_same | assumption | refine look_ne (by omega) ?_)) rfl) ?_
      refine st rfl rfl (e_fieldAddr t38 t3 rfl rfl) ?_
      refine st rfl rfl (e_load1 t3 rfl rfl (by repeat (first | exact look_same | assumption | refine look_ne (by omega) ?_)) rfl) ?_
      refine st rfl rfl (e_mul rfl rfl (inB _ (by omega))) ?_
      rw [hp1]
      refine stC rfl rfl rfl (spec_l3Ones_s _ _ _ _ _ _ (by repeat (first | exact look_same | assumption | refine look_ne (by omega) ?_)) (by omega)) ?_
      refine st rfl rfl (e_pickT rfl rfl) ?_
      refine st rfl rfl (e_move rfl) ?_
      refine stB (fun e1 => ?_) (fun e1 => ?_)
      ·
        try simp only [decide_eq_true_eq, decide_eq_false_iff_not, Bool.not_eq_true', Bool.not_eq_false', Bool.not_eq_true, Bool.not_eq_false] at e1
        refine st rfl rfl (e_fieldAddr t38 t32 rfl rfl) ?_
        refine st rfl rfl (e_load1 t32 rfl rfl (by repeat (first | exact look_same | assumption | refine look_ne (by omega) ?_)) rfl) ?_
        refine st rfl rfl (e_fieldAddr t38 t3 rfl rfl) ?_
        refine st rfl rfl (e_load1 t3 rfl rfl (by repeat (first | exact look_same | assumption | refine look_ne (by omega) ?_)) rfl) ?_
        refine st rfl rfl (e_fieldAddr t38 t3 rfl rfl) ?_
        refine st rfl rfl (e_load1 t3 rfl rfl (by repeat (first | exact look_same | assumption | refine look_ne (by omega) ?_)) rfl) ?_
        refine st rfl rfl (e_mul rfl rfl (inB _ (by omega))) ?_
        rw [hp0]
        refine stC rfl rfl rfl (spec_l3Ones_s _ _ _ _ _ _ (by repeat (first | exact look_same | assumption | refine look_ne (by omega) ?_)) (by omega)) ?_
        refine st rfl rfl (e_pickT rfl rfl) ?_
        refine st rfl rfl (e_assign rfl) ?_
        refine stEnd (hK _ [(2, _)] _ _ rfl ?_)
        clear hK K
        refine W.ret ?_
        refine ⟨.inr rfl, Ends.v0 (by repeat (first | exact self_old | assumption | refine set_old ?_ (by omega))) hfresh (by first | rfl | (simp [ltT, ltA, ltC, ltV]; try omega)) (res1 (resT rfl) rfl) ?_⟩
        simp only [shadB, hs, e2, e1, Bool.false_and, Bool.true_and, Bool.and_false, Bool.and_true]
      ·
        try simp only [decide_eq_true_eq, decide_eq_false_iff_not, Bool.not_eq_true', Bool.not_eq_false', Bool.not_eq_true, Bool.not_eq_false] at e1
        refine stS rfl rfl ?_
        refine stS rfl rfl ?_
        refine stS rfl rfl ?_
        refine stS rfl rfl ?_
        refine stS rfl rfl ?_
        refine stS rfl rfl ?_
        refine stS rfl rfl ?_
        refine stS rfl rfl ?_
        refine st rfl rfl (e_pickF rfl rfl) ?_
        refine st rfl rfl (e_assign rfl) ?_
        refine stEnd (hK _ [(2, _)] _ _ rfl ?_)
        clear hK K
        refine W.ret ?_
        refine ⟨.inr rfl, Ends.v0 (by repeat (first | exact self_old | assumption | refine set_old ?_ (by omega))) hfresh (by first | rfl | (simp [ltT, ltA, ltC, ltV]; try omega)) (res1 (resT rfl) rfl) ?_⟩
        simp only [shadB, hs, e2, e1, Bool.false_and, Bool.true_and, Bool.and_false, Bool.and_true]
    ·
      try simp only [decide_eq_true_eq, decide_eq_false_iff_not, Bool.not_eq_true', Bool.not_eq_false', Bool.not_eq_true, Bool.not_eq_false] at e2
      refine stS rfl rfl ?_
      refine stS rfl rfl ?_
      refine stS rfl rfl ?_
      refine stS rfl rfl ?_
      refine stS rfl rfl ?_
      refine stS rfl rfl ?_
      refine stS rfl rfl ?_
      refine stS rfl rfl ?_
      refine st rfl rfl (e_pickF rfl rfl) ?_
      refine st rfl rfl (e_move rfl) ?_
      refine stS rfl rfl ?_
      refine stS rfl rfl ?_
      refine stS rfl rfl ?_
      refine stS rfl rfl ?_
      refine stS rfl rfl ?_
      refine stS rfl rfl ?_
      refine stS rfl rfl ?_
      refine stS rfl rfl ?_
      refine st rfl rfl (e_pickF rfl rfl) ?_
      refine st rfl rfl (e_assign rfl) ?_
      refine stEnd (hK _ [(2, _)] _ _ rfl ?_)
      clear hK K
      refine W.ret ?_
      refine ⟨.inr rfl, Ends.v0 (by repeat (first | exact self_old | assumption | refine set_old ?_ (by omega))) hfresh (by first | rfl | (simp [ltT, ltA, ltC, ltV]; try omega)) (res1 (resT rfl) rfl) ?_⟩
      simp only [shadB, hs, e2, Bool.false_and, Bool.true_and, Bool.and_false, Bool.and_true]
  ·
    try simp only [decide_eq_true_eq, decide_eq_false_iff_not, Bool.not_eq_true', Bool.not_eq_false', Bool.not_eq_true, Bool.not_eq_false] at hs
    refine stS rfl rfl ?_
    refine stS rfl rfl ?_
    refine stS rfl rfl ?_
    refine stS rfl rfl ?_
    refine stS rfl rfl ?_
    refine stS rfl rfl ?_
    refine stS rfl rfl ?_
    refine stS rfl rfl ?_
    refine st rfl rfl (e_pickF rfl rfl) ?_
    refine st rfl rfl (e_move rfl) ?_
    refine stS rfl rfl ?_
    refine stS rfl rfl ?_
    refine stS rfl rfl ?_
    refine stS rfl rfl ?_
    refine stS rfl rfl ?_
    refine stS rfl rfl ?_
    refine stS rfl rfl ?_
    refine stS rfl rfl ?_
    refine st rfl rfl (e_pickF rfl rfl) ?_
    refine st rfl rfl (e_move rfl) ?_
    refine stS rfl rfl ?_
    refine stS rfl rfl ?_
    refine stS rfl rfl ?_
    refine stS rfl rfl ?_
    refine stS rfl rfl ?_
    refine stS rfl rfl ?_
    refine stS rfl rfl ?_
    refine stS rfl rfl ?_
    refine st rfl rfl (e_pickF rfl rfl) ?_
    refine st rfl rfl (e_assign rfl) ?_
    refine stEnd (hK _ [(2, _)] _ _ rfl ?_)
    clear hK K
    refine W.ret ?_
    refine ⟨.inr rfl, Ends.v0 (by repeat (first | exact self_old | assumption | refine set_old ?_ (by omega))) hfresh (by first | rfl | (simp [ltT, ltA, ltC, ltV]; try omega)) (res1 (resT rfl) rfl) ?_⟩
    simp only [shadB, hs, Bool.false_and, Bool.true_and, Bool.and_false, Bool.and_true]
theorem bsl22_0 {H : Heap} {n : Nat} : cBuildSlice Try.prog 22 0 H n [] = some (.slice (some ⟨n, 0, none⟩) 0 3, H.set n (.cells false []), n + 1) := by
  simp [cBuildSlice, t22, t72, fillC, zeros, konst0, putC, Value.cells]
theorem bld28_0_1_2_3 (v0 : Value) (v1 : Value) (v2 : Value) (v3 : Value) (h0 : oneV v0 = true) (h1 : oneV v1 = true) (h2 : oneV v2 = true) (h3 : oneV v3 = true) : cBuild Try.prog 28 [(0, v0), (1, v1), (2, v2), (3, v3)] = some (.agg #[v0, v1, v2, v3]) := by
  simp [cBuild, t28, t3, t22, fieldsOk, placesC, fillC, konst0, putC, (oneV_cells h0).1, (oneV_cells h1).1, (oneV_cells h2).1, (oneV_cells h3).1]
theorem spec_l2Empty_s (X Y Z : Int) (H : Heap) (n : Nat) : Fn Try.prog 137 [.int .i64 X, .int .i64 Y, .int .i64 Z] H n (.agg #[.int .i64 X, .int .i64 Y, .int .i64 Z, .slice (some ⟨n, 0, none⟩) 0 3]) (H.set n (.cells false [])) (n + 1) := by
  refine Fn.intro' Try.func137 rfl (by kernel_rfl) Try.ntmps137 (by simp) (by omega) fun hfresh => ?_
  show W _ _ _ ⟨[(0, _), (1, _), (2, _)], _, _⟩ _
  refine W.sR [0, 1, 2, 6] fun K hK => ?_
  refine st rfl rfl (e_alloc t28 rfl) ?_
  refine stEnd (hK _ [(0, _), (1, _), (2, _), (6, _)] _ _ rfl ?_)
  clear hK K
  refine W.sR [6] fun K hK => ?_
  refine st rfl rfl (e_move rfl) ?_
  refine st rfl rfl (e_move rfl) ?_
  refine st rfl rfl (e_move rfl) ?_
  refine st rfl rfl (e_buildSlice rfl rfl (bsl22_0)) ?_
  refine st rfl rfl (e_build rfl rfl (bld28_0_1_2_3 _ _ _ _ rfl rfl rfl rfl)) ?_
  refine stN rfl (e_storeA t28 rfl rfl (by repeat (first | exact look_same | assumption | refine look_ne (by omega) ?_)) rfl rfl rfl (by decide)) ?_
  refine stEnd (hK _ [(6, _)] _ _ rfl ?_)
  clear hK K
  refine W.ret ?_
  refine ⟨.inr rfl, Ends.v1 (n + 1) (by omega) (by repeat (first | exact self_old | assumption | refine set_old ?_ (by omega))) hfresh (by repeat (first | exact look_same | assumption | refine look_ne (by omega) ?_)) ?_ rfl (by simp [ltT, ltA, ltC, ltV]; try omega) (res1 (resC t28 rfl rfl (by repeat (first | exact look_same | assumption | refine look_ne (by omega) ?_)) rfl rfl) rfl) ?_⟩
  · rfl
  · first | rfl | simp [renT, renV, renC, renA, one]
theorem bld72_0_1_2 (v0 : Value) (v1 : Value) (v2 : Value) (h0 : oneV v0 = true) (h1 : oneV v1 = true) (h2 : oneV v2 = true) : cBuild Try.prog 72 [(0, v0), (1, v1), (2, v2)] = some (.agg #[v0, v1, v2]) := by
  simp [cBuild, t72, t3, fieldsOk, placesC, fillC, konst0, putC, (oneV_cells h0).1, (oneV_cells h1).1, (oneV_cells h2).1]
theorem bsl22_1 {H : Heap} {n : Nat} {v0_0 : Value} {v0_1 : Value} {v0_2 : Value} : cBuildSlice Try.prog 22 1 H n [(0, .agg #[v0_0, v0_1, v0_2])] = some (.slice (some ⟨n, 0, none⟩) 1 3, H.set n (.cells false [v0_0, v0_1, v0_2]), n + 1) := by
  simp [cBuildSlice, t22, t72, fillC, zeros, konst0, putC, Value.cells]
theorem spec_l2All_s (X Y Z : Int) (sv : Value) (H : Heap) (n : Nat) (hX : (1 ≤ X ∧ X ≤ 4) ∧ (1 ≤ Y ∧ Y ≤ 4) ∧ (1 ≤ Z ∧ Z ≤ 4)) : Fn Try.prog 130 [.agg #[.int .i64 X, .int .i64 Y, .int .i64 Z, sv]] H n (.slice (some ⟨n, 0, none⟩) (allC X Y Z).length 3) (H.set n (.cells false (flat (allC X Y Z)))) (n + 1) := by
  refine Fn.intro' Try.func130 rfl (by kernel_rfl) Try.ntmps130 (by simp) (by omega) fun hfresh => ?_
  show W _ _ _ ⟨[(0, _)], _, _⟩ _
  refine W.sR [1] fun K hK => ?_
  refine st rfl rfl (e_boxA rfl) ?_
  refine st rfl rfl (e_assign rfl) ?_
  refine stEnd (hK _ [(1, _)] _ _ rfl ?_)
  clear hK K
  refine W.sR [1, 3] fun K hK => ?_
  refine st rfl rfl (e_buildSlice rfl rfl (bsl22_0)) ?_
  refine st rfl rfl (e_assign rfl) ?_
  refine stEnd (hK _ [(1, _), (3, _)] _ _ rfl ?_)
  clear hK K
  refine W.seq ?_
  refine W.sR [1, 3, 4] fun K hK => ?_
  refine st rfl rfl (e_assign rfl) ?_
  refine stEnd (hK _ [(1, _), (3, _), (4, _)] _ _ rfl ?_)
  clear hK K
  refine W.block ?_
  refine W.ord [3, 4, 1] (ts' := [(3, _), (4, _)] ++ [(1, _)]) rfl ?_
  refine W.loopC [(3, _), (4, _)] [n + 1] (fun κ V G0 μ0 => ∃ x p : Nat, V = [(3, .slice (some ⟨p, 0, none⟩) (allN Y Z x 0 0).length 3), (4, .int .i64 (x : Nat))] ∧ κ = X.toNat - x ∧ (x ≤ X.toNat) ∧ ((p = n + 1 ∨ n + 1 + 1 ≤ p) ∧ p < μ0) ∧ (G0 p = some (.cells false (flat (allN Y Z x 0 0))))) _ ⟨0, n + 1, (by rw [allN_zero]; rfl), rfl, (by first | omega | assumption | rfl | simp_all), (by omega), (by rw [allN_zero]; exact look_same)⟩ fun κ V G0 μ0 hinv hμ0 hkeep0 hfr0 => ?_
  obtain ⟨x, p, rfl, rfl, hx, hp, hG⟩ := hinv
  refine W.seq ?_
  refine W.sR [1, 3, 4, 11] fun K hK => ?_
  refine st rfl rfl (e_move rfl) ?_
  refine st rfl rfl (e_fieldAddr t28 t3 rfl rfl) ?_
  refine st rfl rfl (e_load1 t3 rfl rfl (by repeat (first | exact look_same | assumption | refine look_ne (by omega) ?_ | refine look_del (by omega) ?_ | refine look_keep (by assumption) (by omega) (by simp; try omega) ?_)) rfl) ?_
  refine st rfl rfl (e_lss rfl rfl) ?_
  refine stB (fun hb1 => ?_) (fun hb1 => ?_)
  ·
    try simp only [decide_eq_true_eq, decide_eq_false_iff_not, Bool.not_eq_true', Bool.not_eq_false', Bool.not_eq_true, Bool.not_eq_false] at hb1
    refine stEnd (hK _ [(1, _), (3, _), (4, _), (11, _)] _ _ rfl ?_)
    clear hK K
    refine W.condT rfl ?_
    refine W.skip ?_
    refine thenN ?_
    refine W.seq ?_
    refine W.block ?_
    refine W.sR [1, 3, 4, 5] fun K hK => ?_
    refine st rfl rfl (e_assign rfl) ?_
    refine stEnd (hK _ [(1, _), (3, _), (4, _), (5, _)] _ _ rfl ?_)
    clear hK K
    refine W.block ?_
    refine W.ord [3, 5, 1, 4] (ts' := [(3, _), (5, _)] ++ [(1, _), (4, _)]) rfl ?_
    refine W.loopC [(3, _), (5, _)] [p] (fun κ V G1 μ1 => ∃ y q : Nat, V = [(3, .slice (some ⟨q, 0, none⟩) (allN Y Z x y 0).length 3), (5, .int .i64 (y : Nat))] ∧ κ = Y.toNat - y ∧ (y ≤ Y.toNat) ∧ ((q = p ∨ μ0 ≤ q) ∧ q < μ1) ∧ (G1 q = some (.cells false (flat (allN Y Z x y 0))))) _ ⟨0, p, rfl, rfl, (by first | omega | assumption | rfl | simp_all), (by omega), hG⟩ fun κ V G1 μ1 hinv hμ1 hkeep1 hfr1 => ?_
    obtain ⟨y, q, rfl, rfl, hy, hq, hG1⟩ := hinv
    refine W.seq ?_
    refine W.sR [1, 3, 4, 5, 17] fun K hK => ?_
    refine st rfl rfl (e_move rfl) ?_
    refine st rfl rfl (e_fieldAddr t28 t3 rfl rfl) ?_
    refine st rfl rfl (e_load1 t3 rfl rfl (by repeat (first | exact look_same | assumption | refine look_ne (by omega) ?_ | refine look_del (by omega) ?_ | refine look_keep (by assumption) (by omega) (by simp; try omega) ?_)) rfl) ?_
    refine st rfl rfl (e_lss rfl rfl) ?_
    refine stB (fun hb2 => ?_) (fun hb2 => ?_)
    ·
      try simp only [decide_eq_true_eq, decide_eq_false_iff_not, Bool.not_eq_true', Bool.not_eq_false', Bool.not_eq_true, Bool.not_eq_false] at hb2
      refine stEnd (hK _ [(1, _), (3, _), (4, _), (5, _), (17, _)] _ _ rfl ?_)
      clear hK K
      refine W.condT rfl ?_
      refine W.skip ?_
      refine thenN ?_
      refine W.seq ?_
      refine W.block ?_
      refine W.sR [1, 3, 4, 5, 6] fun K hK => ?_
      refine st rfl rfl (e_assign rfl) ?_
      refine stEnd (hK _ [(1, _), (3, _), (4, _), (5, _), (6, _)] _ _ rfl ?_)
      clear hK K
      refine W.block ?_
      refine W.ord [3, 6, 1, 4, 5] (ts' := [(3, _), (6, _)] ++ [(1, _), (4, _), (5, _)]) rfl ?_
      refine W.loopC [(3, _), (6, _)] [q] (fun κ V G2 μ2 => ∃ z r : Nat, V = [(3, .slice (some ⟨r, 0, none⟩) (allN Y Z x y z).length 3), (6, .int .i64 (z : Nat))] ∧ κ = Z.toNat - z ∧ (z ≤ Z.toNat) ∧ ((r = q ∨ μ1 ≤ r) ∧ r < μ2) ∧ (G2 r = some (.cells false (flat (allN Y Z x y z))))) _ ⟨0, q, rfl, rfl, (by first | omega | assumption | rfl | simp_all), (by omega), hG1⟩ fun κ V G2 μ2 hinv hμ2 hkeep2 hfr2 => ?_
      obtain ⟨z, r, rfl, rfl, hz, hr, hG2⟩ := hinv
      refine W.seq ?_
      refine W.sR [1, 3, 4, 5, 6, 23] fun K hK => ?_
      refine st rfl rfl (e_move rfl) ?_
      refine st rfl rfl (e_fieldAddr t28 t3 rfl rfl) ?_
      refine st rfl rfl (e_load1 t3 rfl rfl (by repeat (first | exact look_same | assumption | refine look_ne (by omega) ?_ | refine look_del (by omega) ?_ | refine look_keep (by assumption) (by omega) (by simp; try omega) ?_)) rfl) ?_
      refine st rfl rfl (e_lss rfl rfl) ?_
      refine stB (fun hb3 => ?_) (fun hb3 => ?_)
      ·
        try simp only [decide_eq_true_eq, decide_eq_false_iff_not, Bool.not_eq_true', Bool.not_eq_false', Bool.not_eq_true, Bool.not_eq_false] at hb3
        refine stEnd (hK _ [(1, _), (3, _), (4, _), (5, _), (6, _), (23, _)] _ _ rfl ?_)
        clear hK K
        refine W.condT rfl ?_
        refine W.skip ?_
        refine thenN ?_
        refine W.seq ?_
        refine W.block ?_
        refine W.rR [1, 3, 4, 5, 6] fun K hK => ?_
        refine st rfl rfl (e_move rfl) ?_
        refine st rfl rfl (e_move rfl) ?_
        refine st rfl rfl (e_move rfl) ?_
        refine st rfl rfl (e_move rfl) ?_
        refine st rfl rfl (e_build rfl rfl (bld72_0_1_2 _ _ _ rfl rfl rfl)) ?_
        refine st rfl rfl (e_buildSlice rfl rfl (bsl22_1)) ?_
        refine st rfl rfl (e_append t22 t22 t72 rfl rfl (by repeat (first | exact look_same | assumption | refine look_ne (by omega) ?_ | refine look_del (by omega) ?_ | refine look_keep (by assumption) (by omega) (by simp; try omega) ?_)) (by repeat (first | exact look_same | assumption | refine look_ne (by omega) ?_ | refine look_del (by omega) ?_ | refine look_keep (by assumption) (by omega) (by simp; try omega) ?_)) (by decide) (flat_length _) rfl (by have := allN_len (X := X) (Y := Y) (Z := Z) (x := x) (y := y) (z := z) hX (by omega) (by omega) (by omega); omega)) ?_
        refine st rfl rfl (e_assign rfl) ?_
        refine stEnd (hK _ [(1, _), (3, _), (4, _), (5, _), (6, _)] _ _ rfl ?_)
        clear hK K
        refine blockN ?_
        refine thenN ?_
        refine W.rR [3, 6, 1, 4, 5] fun K hK => ?_
        refine st rfl rfl (e_move rfl) ?_
        refine st rfl rfl (e_add rfl rfl (inB _ (by omega))) ?_
        refine st rfl rfl (e_assign rfl) ?_
        refine stEnd (hK _ [(3, _), (6, _), (1, _), (4, _), (5, _)] _ _ rfl ?_)
        clear hK K
        exact roundN (V' := [(3, _), (6, _)]) [3, 6, 1, 4, 5] rfl (by omega) (by repeat (first | exact Keeps.refl _ _ _ | assumption | refine Keeps.trans ?_ (by assumption) (by omega) (by simp; try omega) | refine Keeps.set ?_ (by first | exact Or.inl (by omega) | (simp; done) | (simp; omega)) | refine Keeps.del ?_ (by first | exact Or.inl (by omega) | (simp; done) | (simp; omega)))) _ (by omega) ⟨z + 1, μ2 + 1, (by rw [allN_succ hX.2.1 hX.2.2 (by omega) (by omega)]; simp), rfl, (by first | omega | assumption | simp_all), (by omega), (look_same.trans (congrArg some (congrArg (Blk.cells false) (by rw [allN_succ hX.2.1 hX.2.2 (by omega) (by omega)]; exact flat_snoc _ ((x : Int), (y : Int), (z : Int))))))⟩
      ·
        try simp only [decide_eq_true_eq, decide_eq_false_iff_not, Bool.not_eq_true', Bool.not_eq_false', Bool.not_eq_true, Bool.not_eq_false] at hb3
        refine stEnd (hK _ [(1, _), (3, _), (4, _), (5, _), (6, _), (23, _)] _ _ rfl ?_)
        clear hK K
        refine W.condF rfl ?_
        refine W.exit ?_
        refine thenE ?_
        refine thenE ?_
        refine blockX ?_
        refine blockN ?_
        refine thenN ?_
        refine W.rR [3, 5, 1, 4] fun K hK => ?_
        refine st rfl rfl (e_move rfl) ?_
        refine st rfl rfl (e_add rfl rfl (inB _ (by omega))) ?_
        refine st rfl rfl (e_assign rfl) ?_
        refine stEnd (hK _ [(3, _), (5, _), (1, _), (4, _)] _ _ rfl ?_)
        clear hK K
        exact roundN (V' := [(3, _), (5, _)]) [3, 5, 1, 4] rfl (by omega) (by repeat (first | exact Keeps.refl _ _ _ | assumption | refine Keeps.trans ?_ (by assumption) (by omega) (by simp; try omega) | refine Keeps.set ?_ (by first | exact Or.inl (by omega) | (simp; done) | (simp; omega)) | refine Keeps.del ?_ (by first | exact Or.inl (by omega) | (simp; done) | (simp; omega)))) _ (by omega) ⟨y + 1, r, (by rw [← allN_y (Y := Y) (Z := Z) (x := x) (y := y) (z := z) (by omega)]; rfl), rfl, (by first | omega | assumption | simp_all), (by omega), (by rw [← allN_y (z := z) (by omega)]; exact hG2)⟩
    ·
      try simp only [decide_eq_true_eq, decide_eq_false_iff_not, Bool.not_eq_true', Bool.not_eq_false', Bool.not_eq_true, Bool.not_eq_false] at hb2
      refine stEnd (hK _ [(1, _), (3, _), (4, _), (5, _), (17, _)] _ _ rfl ?_)
      clear hK K
      refine W.condF rfl ?_
      refine W.exit ?_
      refine thenE ?_
      refine thenE ?_
      refine blockX ?_
      refine blockN ?_
      refine thenN ?_
      refine W.rR [3, 4, 1] fun K hK => ?_
      refine st rfl rfl (e_move rfl) ?_
      refine st rfl rfl (e_add rfl rfl (inB _ (by omega))) ?_
      refine st rfl rfl (e_assign rfl) ?_
      refine stEnd (hK _ [(3, _), (4, _), (1, _)] _ _ rfl ?_)
      clear hK K
      exact roundN (V' := [(3, _), (4, _)]) [3, 4, 1] rfl (by omega) (by repeat (first | exact Keeps.refl _ _ _ | assumption | refine Keeps.trans ?_ (by assumption) (by omega) (by simp; try omega) | refine Keeps.set ?_ (by first | exact Or.inl (by omega) | (simp; done) | (simp; omega)) | refine Keeps.del ?_ (by first | exact Or.inl (by omega) | (simp; done) | (simp; omega)))) _ (by omega) ⟨x + 1, q, (by rw [← allN_x (Y := Y) (Z := Z) (x := x) (y := y) (by omega)]; rfl), rfl, (by first | omega | assumption | simp_all), (by omega), (by rw [← allN_x (y := y) (by omega)]; exact hG1)⟩
  ·
    try simp only [decide_eq_true_eq, decide_eq_false_iff_not, Bool.not_eq_true', Bool.not_eq_false', Bool.not_eq_true, Bool.not_eq_false] at hb1
    refine stEnd (hK _ [(1, _), (3, _), (4, _), (11, _)] _ _ rfl ?_)
    clear hK K
    refine W.condF rfl ?_
    refine W.exit ?_
    refine thenE ?_
    refine thenE ?_
    refine blockX ?_
    refine thenN ?_
    refine W.sR [2] fun K hK => ?_
    refine st rfl rfl (e_move rfl) ?_
    refine st rfl rfl (e_assign rfl) ?_
    refine stEnd (hK _ [(2, _)] _ _ rfl ?_)
    clear hK K
    refine W.ret ?_
    refine ⟨.inr rfl, Ends.v1 (p) (by omega) (by repeat (first | exact self_old | assumption | refine set_old ?_ (by omega) | refine del_old ?_ (by omega) | refine keep_old (by assumption) ?_ (by omega) (by simp; try omega))) hfresh (by repeat (first | exact look_same | assumption | refine look_ne (by omega) ?_ | refine look_del (by omega) ?_ | refine look_keep (by assumption) (by omega) (by simp; try omega) ?_)) ?_ (by first | exact flat_plain _ | exact ints_plain _) (by simp [ltT, ltA, ltC, ltV]; try omega) (res1 (resT rfl) rfl) ?_⟩
    · rw [allN_end hX (show x = X.toNat by omega)]
    · rw [allN_end hX (show x = X.toNat by omega)]; simp [renT, renV, renC, renA, one]
theorem spec_l3Allowed_s (X Y Z : Int) (b0 b1 b2 : Nat) (r0 r1 r2 : Bool) (x0 x1 x2 : List Int) (H : Heap) (n : Nat) (hb0 : H b0 = some (.cells r0 (ints x0))) (hb1 : H b1 = some (.cells r1 (ints x1))) (hb2 : H b2 = some (.cells r2 (ints x2))) (hk : ShOk X Y Z x0 x1 x2) : Fn Try.prog 83 [.agg #[.int .i64 X, .int .i64 Y, .int .i64 Z, .slice (some ⟨b0, 0, none⟩) x0.length 1, .slice (some ⟨b1, 0, none⟩) x1.length 1, .slice (some ⟨b2, 0, none⟩) x2.length 1]] H n (.agg #[.int .i64 X, .int .i64 Y, .int .i64 Z, .slice (some ⟨n, 0, none⟩) (alC X Y Z x0 x1 x2).length 3]) (H.set n (.cells false (flat (alC X Y Z x0 x1 x2)))) (n + 1) := by
  refine Fn.intro' Try.func83 rfl (by kernel_rfl) Try.ntmps83 (by simp) (by omega) fun hfresh => ?_
  have lt_hb0 := lt_fresh hfresh hb0
  have lt_hb1 := lt_fresh hfresh hb1
  have lt_hb2 := lt_fresh hfresh hb2
  have hX := hk.box
  have hal := allC_length X Y Z
  have hvl := vol_le hX
  show W _ _ _ ⟨[(0, _)], _, _⟩ _
  refine W.sR [1, 2] fun K hK => ?_
  refine st rfl rfl (e_boxA rfl) ?_
  refine st rfl rfl (e_alloc t28 rfl) ?_
  refine stEnd (hK _ [(1, _), (2, _)] _ _ rfl ?_)
  clear hK K
  refine W.sR [1, 2, 3] fun K hK => ?_
  refine st rfl rfl (e_fieldAddr t38 t3 rfl rfl) ?_
  refine st rfl rfl (e_load1 t3 rfl rfl (by repeat (first | exact look_same | assumption | refine look_ne (by omega) ?_ | refine look_del (by omega) ?_ | refine look_keep (by assumption) (by omega) (by simp; try omega) ?_)) rfl) ?_
  refine st rfl rfl (e_fieldAddr t38 t3 rfl rfl) ?_
  refine st rfl rfl (e_load1 t3 rfl rfl (by repeat (first | exact look_same | assumption | refine look_ne (by omega) ?_ | refine look_del (by omega) ?_ | refine look_keep (by assumption) (by omega) (by simp; try omega) ?_)) rfl) ?_
  refine st rfl rfl (e_fieldAddr t38 t3 rfl rfl) ?_
  refine st rfl rfl (e_load1 t3 rfl rfl (by repeat (first | exact look_same | assumption | refine look_ne (by omega) ?_ | refine look_del (by omega) ?_ | refine look_keep (by assumption) (by omega) (by simp; try omega) ?_)) rfl) ?_
  refine stC rfl rfl rfl (spec_l2Empty_s _ _ _ _ _ ) ?_
  refine st rfl rfl (e_alloc t28 rfl) ?_
  refine stN rfl (e_storeA t28 rfl rfl (by repeat (first | exact look_same | assumption | refine look_ne (by omega) ?_ | refine look_del (by omega) ?_ | refine look_keep (by assumption) (by omega) (by simp; try omega) ?_)) rfl rfl rfl (by decide)) ?_
  refine stEnd (hK _ [(1, _), (2, _), (3, _)] _ _ rfl ?_)
  clear hK K
  refine W.sR [1, 2, 3, 4] fun K hK => ?_
  refine st rfl rfl (e_loadA t28 rfl rfl (by repeat (first | exact look_same | assumption | refine look_ne (by omega) ?_ | refine look_del (by omega) ?_ | refine look_keep (by assumption) (by omega) (by simp; try omega) ?_)) rfl rfl) ?_
  refine stC rfl rfl rfl (spec_l2All_s _ _ _ _ _ _ (by assumption)) ?_
  refine st rfl rfl (e_assign rfl) ?_
  refine stEnd (hK _ [(1, _), (2, _), (3, _), (4, _)] _ _ rfl ?_)
  clear hK K
  refine W.seq ?_
  refine W.sR [1, 2, 3, 4, 5] fun K hK => ?_
  refine st rfl rfl (e_assign rfl) ?_
  refine stEnd (hK _ [(1, _), (2, _), (3, _), (4, _), (5, _)] _ _ rfl ?_)
  clear hK K
  refine W.block ?_
  refine W.ord [5, 1, 2, 3, 4] (ts' := [(5, _)] ++ [(1, _), (2, _), (3, _), (4, _)]) rfl ?_
  refine W.loopC [(5, _)] [n + 1 + 1 + 1, n + 1 + 1] (fun κ V G μ => ∃ i r : Nat, V = [(5, .int .i64 (i : Nat))] ∧ κ = (allC X Y Z).length - i ∧ (i ≤ (allC X Y Z).length) ∧ ((r = n + 1 + 1 ∨ n + 1 + 1 + 1 + 1 + 1 ≤ r) ∧ r < μ) ∧ (G (n + 1 + 1 + 1) = some (.cells false [.int .i64 X, .int .i64 Y, .int .i64 Z, .slice (some ⟨r, 0, none⟩) (filN (alF X Y Z x0 x1 x2) (allC X Y Z) i).length 3])) ∧ (G r = some (.cells false (flat (filN (alF X Y Z x0 x1 x2) (allC X Y Z) i))))) _ ⟨0, n + 1 + 1, rfl, rfl, (by first | omega | assumption | rfl | simp_all), (by omega), (by rw [filN_zero]; exact (by repeat (first | exact look_same | assumption | refine look_ne (by omega) ?_ | refine look_keep (by assumption) (by omega) (by simp; try omega) ?_))), (by rw [filN_zero]; exact (by repeat (first | exact look_same | assumption | refine look_ne (by omega) ?_ | refine look_keep (by assumption) (by omega) (by simp; try omega) ?_)))⟩ fun κ V G μ hinv hμ hkeep hfr => ?_
  obtain ⟨i, r, rfl, rfl, hi, hr, hO, hG⟩ := hinv
  refine W.seq ?_
  refine W.sR [1, 2, 3, 4, 5, 21] fun K hK => ?_
  refine st rfl rfl (e_move rfl) ?_
  refine st rfl rfl (e_move rfl) ?_
  refine st rfl rfl (e_len t22 rfl) ?_
  refine st rfl rfl (e_lss rfl rfl) ?_
  refine stB (fun hb1 => ?_) (fun hb1 => ?_)
  ·
    try simp only [decide_eq_true_eq, decide_eq_false_iff_not, Bool.not_eq_true', Bool.not_eq_false', Bool.not_eq_true, Bool.not_eq_false] at hb1
    refine stEnd (hK _ [(1, _), (2, _), (3, _), (4, _), (5, _), (21, _)] _ _ rfl ?_)
    clear hK K
    refine W.condT rfl ?_
    refine W.skip ?_
    refine thenN ?_
    refine W.seq ?_
    refine W.block ?_
    have hat := allC_at (X := X) (Y := Y) (Z := Z) (i := i) (by omega)
    have hc := (allC_mem hX).mp (at3_mem (show i < (allC X Y Z).length by omega))
    have hx0 := line_bd hX 0 hc
    have hx1 := line_bd hX 1 hc
    have hx2 := line_bd hX 2 hc
    have hn0 := hk.len 0 (by omega)
    have hn1 := hk.len 1 (by omega)
    have hn2 := hk.len 2 (by omega)
    simp only [pick3] at hn0 hn1 hn2
    have hy2 := mul_bd (a := (at3 (allC X Y Z) i).1) (b := Y) (by have := hc.1; omega) hX.2.1
    have hy1 := mul_bd (a := (at3 (allC X Y Z) i).1) (b := Z) (by have := hc.1; omega) hX.2.2
    have hy0 := mul_bd (a := (at3 (allC X Y Z) i).2.1) (b := Z) (by have := hc.2.1; omega) hX.2.2
    have hz2 : (at3 (allC X Y Z) i).1 * Y + (at3 (allC X Y Z) i).2.1 = (lineIx X Y Z 2 (at3 (allC X Y Z) i) : Int) := hx2.1
    have hz1 : (at3 (allC X Y Z) i).1 * Z + (at3 (allC X Y Z) i).2.2 = (lineIx X Y Z 1 (at3 (allC X Y Z) i) : Int) := hx1.1
    have hz0 : (at3 (allC X Y Z) i).2.1 * Z + (at3 (allC X Y Z) i).2.2 = (lineIx X Y Z 0 (at3 (allC X Y Z) i) : Int) := hx0.1
    simp only [In] at hc
    refine W.sD [1, 2, 3, 4, 5, 6, 7, 8] [0, 0, 3, 7, 15, 0, 0, 96, 224, 480, 0, 0, 3072, 7168, 15360, 31, 33791, 131071] (by kernel_rfl) (by kernel_rfl) fun K hK => ?_
    refine dP rfl rfl rfl (e_move rfl) ?_
    refine dP rfl rfl rfl (e_move rfl) ?_
    refine dP rfl rfl rfl (e_idxSK _ t22 t72 rfl rfl rfl (by first | omega | decide)) ?_
    refine dP rfl rfl rfl (e_idxAK (0) t72 t3 rfl rfl (by first | rfl | omega) (by first | omega | decide)) ?_
    refine dL rfl rfl rfl (by omega) (accB_ok rfl) (e_load1 t3 rfl rfl (by repeat (first | exact look_same | assumption | refine look_ne (by omega) ?_ | refine look_del (by omega) ?_ | refine look_keep (by assumption) (by omega) (by simp; try omega) ?_)) (by first | exact (flat_get (by omega) (by omega)).trans rfl | exact flat_getJ (by omega) (by omega))) ?_
    refine dP rfl rfl rfl (e_move rfl) ?_
    refine dP rfl rfl rfl (e_move rfl) ?_
    refine dP rfl rfl rfl (e_idxSK _ t22 t72 rfl rfl rfl (by first | omega | decide)) ?_
    refine dP rfl rfl rfl (e_idxAK (1) t72 t3 rfl rfl (by first | rfl | omega) (by first | omega | decide)) ?_
    refine dL rfl rfl rfl (by omega) (accB_ok rfl) (e_load1 t3 rfl rfl (by repeat (first | exact look_same | assumption | refine look_ne (by omega) ?_ | refine look_del (by omega) ?_ | refine look_keep (by assumption) (by omega) (by simp; try omega) ?_)) (by first | exact (flat_get (by omega) (by omega)).trans rfl | exact flat_getJ (by omega) (by omega))) ?_
    refine dP rfl rfl rfl (e_move rfl) ?_
    refine dP rfl rfl rfl (e_move rfl) ?_
    refine dP rfl rfl rfl (e_idxSK _ t22 t72 rfl rfl rfl (by first | omega | decide)) ?_
    refine dP rfl rfl rfl (e_idxAK (2) t72 t3 rfl rfl (by first | rfl | omega) (by first | omega | decide)) ?_
    refine dL rfl rfl rfl (by omega) (accB_ok rfl) (e_load1 t3 rfl rfl (by repeat (first | exact look_same | assumption | refine look_ne (by omega) ?_ | refine look_del (by omega) ?_ | refine look_keep (by assumption) (by omega) (by simp; try omega) ?_)) (by first | exact (flat_get (by omega) (by omega)).trans rfl | exact flat_getJ (by omega) (by omega))) ?_
    refine dP rfl rfl rfl (e_assign rfl) ?_
    refine dP rfl rfl rfl (e_assign rfl) ?_
    refine dP rfl rfl rfl (e_assign rfl) ?_
    refine dEnd (hK _ [(1, _), (2, _), (3, _), (4, _), (5, _), (6, _), (7, _), (8, _)] _ _ rfl ?_)
    clear hK K
    refine W.sR [1, 2, 3, 4, 5, 75] fun K hK => ?_
    refine st rfl rfl (e_fieldAddr t38 t32 rfl rfl) ?_
    refine st rfl rfl (e_load1 t32 rfl rfl (by repeat (first | exact look_same | assumption | refine look_ne (by omega) ?_ | refine look_del (by omega) ?_ | refine look_keep (by assumption) (by omega) (by simp; try omega) ?_)) rfl) ?_
    refine st rfl rfl (e_move rfl) ?_
    refine st rfl rfl (e_fieldAddr t38 t3 rfl rfl) ?_
    refine st rfl rfl (e_load1 t3 rfl rfl (by repeat (first | exact look_same | assumption | refine look_ne (by omega) ?_ | refine look_del (by omega) ?_ | refine look_keep (by assumption) (by omega) (by simp; try omega) ?_)) rfl) ?_
    refine st rfl rfl (e_mul rfl rfl (inB _ (by omega))) ?_
    refine st rfl rfl (e_move rfl) ?_
    refine st rfl rfl (e_add rfl rfl (inB _ (by omega))) ?_
    refine st rfl rfl (e_idxSK (lineIx X Y Z 2 (at3 (allC X Y Z) i)) t32 t3 rfl rfl hz2 (by omega)) ?_
    refine st rfl rfl (e_load1 t3 rfl rfl (by repeat (first | exact look_same | assumption | refine look_ne (by omega) ?_ | refine look_del (by omega) ?_ | refine look_keep (by assumption) (by omega) (by simp; try omega) ?_)) (ints_at (by omega))) ?_
    refine st rfl rfl (e_eql rfl rfl) ?_
    refine st rfl rfl (e_move rfl) ?_
    refine stB (fun e2 => ?_) (fun e2 => ?_)
    ·
      try simp only [decide_eq_true_eq, decide_eq_false_iff_not, Bool.not_eq_true', Bool.not_eq_false', Bool.not_eq_true, Bool.not_eq_false] at e2
      refine st rfl rfl (e_fieldAddr t38 t32 rfl rfl) ?_
      refine st rfl rfl (e_load1 t32 rfl rfl (by repeat (first | exact look_same | assumption | refine look_ne (by omega) ?_ | refine look_del (by omega) ?_ | refine look_keep (by assumption) (by omega) (by simp; try omega) ?_)) rfl) ?_
      refine st rfl rfl (e_move rfl) ?_
      refine st rfl rfl (e_fieldAddr t38 t3 rfl rfl) ?_
      refine st rfl rfl (e_load1 t3 rfl rfl (by repeat (first | exact look_same | assumption | refine look_ne (by omega) ?_ | refine look_del (by omega) ?_ | refine look_keep (by assumption) (by omega) (by simp; try omega) ?_)) rfl) ?_
      refine st rfl rfl (e_mul rfl rfl (inB _ (by omega))) ?_
      refine st rfl rfl (e_move rfl) ?_
      refine st rfl rfl (e_add rfl rfl (inB _ (by omega))) ?_
      refine st rfl rfl (e_idxSK (lineIx X Y Z 1 (at3 (allC X Y Z) i)) t32 t3 rfl rfl hz1 (by omega)) ?_
      refine st rfl rfl (e_load1 t3 rfl rfl (by repeat (first | exact look_same | assumption | refine look_ne (by omega) ?_ | refine look_del (by omega) ?_ | refine look_keep (by assumption) (by omega) (by simp; try omega) ?_)) (ints_at (by omega))) ?_
      refine st rfl rfl (e_eql rfl rfl) ?_
      refine st rfl rfl (e_pickT rfl rfl) ?_
      refine st rfl rfl (e_move rfl) ?_
      refine stB (fun e1 => ?_) (fun e1 => ?_)
      ·
        try simp only [decide_eq_true_eq, decide_eq_false_iff_not, Bool.not_eq_true', Bool.not_eq_false', Bool.not_eq_true, Bool.not_eq_false] at e1
        refine st rfl rfl (e_fieldAddr t38 t32 rfl rfl) ?_
        refine st rfl rfl (e_load1 t32 rfl rfl (by repeat (first | exact look_same | assumption | refine look_ne (by omega) ?_ | refine look_del (by omega) ?_ | refine look_keep (by assumption) (by omega) (by simp; try omega) ?_)) rfl) ?_
        refine st rfl rfl (e_move rfl) ?_
        refine st rfl rfl (e_fieldAddr t38 t3 rfl rfl) ?_
        refine st rfl rfl (e_load1 t3 rfl rfl (by repeat (first | exact look_same | assumption | refine look_ne (by omega) ?_ | refine look_del (by omega) ?_ | refine look_keep (by assumption) (by omega) (by simp; try omega) ?_)) rfl) ?_
        refine st rfl rfl (e_mul rfl rfl (inB _ (by omega))) ?_
        refine st rfl rfl (e_move rfl) ?_
        refine st rfl rfl (e_add rfl rfl (inB _ (by omega))) ?_
        refine st rfl rfl (e_idxSK (lineIx X Y Z 0 (at3 (allC X Y Z) i)) t32 t3 rfl rfl hz0 (by omega)) ?_
        refine st rfl rfl (e_load1 t3 rfl rfl (by repeat (first | exact look_same | assumption | refine look_ne (by omega) ?_ | refine look_del (by omega) ?_ | refine look_keep (by assumption) (by omega) (by simp; try omega) ?_)) (ints_at (by omega))) ?_
        refine st rfl rfl (e_eql rfl rfl) ?_
        refine st rfl rfl (e_pickT rfl rfl) ?_
        refine stB (fun e0 => ?_) (fun e0 => ?_)
        ·
          try simp only [decide_eq_true_eq, decide_eq_false_iff_not, Bool.not_eq_true', Bool.not_eq_false', Bool.not_eq_true, Bool.not_eq_false] at e0
          refine stEnd (hK _ [(1, _), (2, _), (3, _), (4, _), (5, _), (75, _)] _ _ rfl ?_)
          clear hK K
          refine W.condT rfl ?_
          refine W.rD [1, 2, 3, 4, 5] [0, 1, 0, 0, 12, 28, 60, 127, 255, 511] (by kernel_rfl) (by kernel_rfl) fun K hK => ?_
          refine dP rfl rfl rfl (e_fieldAddr t28 t22 rfl rfl) ?_
          refine dL rfl rfl rfl (by omega) (accB_ok rfl) (e_load1 t22 rfl rfl (by repeat (first | exact look_same | assumption | refine look_ne (by omega) ?_ | refine look_del (by omega) ?_ | refine look_keep (by assumption) (by omega) (by simp; try omega) ?_)) rfl) ?_
          refine dP rfl rfl rfl (e_move rfl) ?_
          refine dP rfl rfl rfl (e_move rfl) ?_
          refine dP rfl rfl rfl (e_idxSK _ t22 t72 rfl rfl rfl (by first | omega | decide)) ?_
          refine dL rfl rfl rfl (by omega) (accB_ok rfl) (e_loadP t72 rfl rfl (by repeat (first | exact look_same | assumption | refine look_ne (by omega) ?_ | refine look_del (by omega) ?_ | refine look_keep (by assumption) (by omega) (by simp; try omega) ?_)) (flat_at (by omega))) ?_
          refine dN rfl rfl rfl (e_buildSlice rfl rfl (bsl22_1)) ?_
          refine dA rfl rfl rfl rfl (app_any t22 t22 t72 rfl rfl (by repeat (first | exact look_same | assumption | refine look_ne (by omega) ?_ | refine look_del (by omega) ?_ | refine look_keep (by assumption) (by omega) (by simp; try omega) ?_ | refine look_hide (by omega) (by first | exact List.not_mem_nil | (simp [hidden, Nat.testBit]; done) | (simp [hidden, Nat.testBit]; omega)) ?_)) (take_row (m := 1) (by repeat (first | exact look_same | assumption | refine look_ne (by omega) ?_ | refine look_del (by omega) ?_ | refine look_keep (by assumption) (by omega) (by simp; try omega) ?_ | refine look_hide (by omega) (by first | exact List.not_mem_nil | (simp [hidden, Nat.testBit]; done) | (simp [hidden, Nat.testBit]; omega)) ?_)) rfl) (by decide) (flat_length _) (by first | rfl | (simp [flat_length]; done) | (simp [flat_length]; omega)) (by have := filN_len (alF X Y Z x0 x1 x2) (allC X Y Z) i; omega) (by omega)) (by omega) (by first | exact List.not_mem_nil | (simp [hidden, Nat.testBit]; done) | (simp [hidden, Nat.testBit]; omega)) (by first | exact List.not_mem_nil | (simp [hidden, Nat.testBit]; done) | (simp [hidden, Nat.testBit]; omega)) (fun n' => (accB_ok rfl)) (fun p7 G7 n7 hp7 hk7 hn7 hl7 hb7 => ?_)
          refine dP rfl rfl rfl (e_fieldAddr t28 t22 rfl rfl) ?_
          refine dSt rfl rfl (e_store1 t22 rfl rfl rfl (by repeat (first | exact look_same | assumption | refine look_ne (by omega) ?_ | refine look_del (by omega) ?_ | refine look_keep (by assumption) (by omega) (by simp; try omega) ?_ | refine look_hide (by omega) (by first | exact List.not_mem_nil | (simp [hidden, Nat.testBit]; done) | (simp [hidden, Nat.testBit]; omega)) ?_)) (by first | decide | (simp only [ints_length, flat_length]; omega) | (simp; done) | (simp; omega))) (by omega) (by first | exact List.not_mem_nil | (simp [hidden, Nat.testBit]; done) | (simp [hidden, Nat.testBit]; omega)) (accB_ok rfl) ?_
          refine dEnd (hK _ [(1, _), (2, _), (3, _), (4, _), (5, _)] _ _ rfl ?_)
          clear hK K
          refine blockN ?_
          refine thenN ?_
          refine W.rR [5, 1, 2, 3, 4] fun K hK => ?_
          refine st rfl rfl (e_move rfl) ?_
          refine st rfl rfl (e_add rfl rfl (inB _ (by omega))) ?_
          refine st rfl rfl (e_assign rfl) ?_
          refine stEnd (hK _ [(5, _), (1, _), (2, _), (3, _), (4, _)] _ _ rfl ?_)
          clear hK K
          exact roundN (V' := [(5, _)]) [5, 1, 2, 3, 4] rfl (by omega) (by repeat (first | exact Keeps.refl _ _ _ | assumption | refine Keeps.trans ?_ (by assumption) (by omega) (by simp; try omega) | refine Keeps.set ?_ (by first | exact Or.inl (by omega) | (simp; done) | (simp; omega)) | refine Keeps.del ?_ (by first | exact Or.inl (by omega) | (simp; done) | (simp; omega)))) _ (by omega) ⟨i + 1, p7, rfl, rfl, (by first | omega | assumption | simp_all), (by omega), (look_same.trans (congrArg some (congrArg (Blk.cells false) (by rw [filN_T (by omega) (by rw [al_eq hk hc]; simp only [e2, e1, e0, decide_true, decide_false, Bool.true_and, Bool.false_and, Bool.and_true, Bool.and_false])]; simp)))), (look_ne (by omega) (hp7.trans (congrArg some (congrArg (Blk.cells false) (by rw [filN_T (by omega) (by rw [al_eq hk hc]; simp only [e2, e1, e0, decide_true, decide_false, Bool.true_and, Bool.false_and, Bool.and_true, Bool.and_false])]; exact flat_snoc _ _)))))⟩
        ·
          try simp only [decide_eq_true_eq, decide_eq_false_iff_not, Bool.not_eq_true', Bool.not_eq_false', Bool.not_eq_true, Bool.not_eq_false] at e0
          refine stEnd (hK _ [(1, _), (2, _), (3, _), (4, _), (5, _), (75, _)] _ _ rfl ?_)
          clear hK K
          refine W.condF rfl ?_
          refine W.skip ?_
          refine blockN ?_
          refine thenN ?_
          refine W.rR [5, 1, 2, 3, 4] fun K hK => ?_
          refine st rfl rfl (e_move rfl) ?_
          refine st rfl rfl (e_add rfl rfl (inB _ (by omega))) ?_
          refine st rfl rfl (e_assign rfl) ?_
          refine stEnd (hK _ [(5, _), (1, _), (2, _), (3, _), (4, _)] _ _ rfl ?_)
          clear hK K
          exact roundN (V' := [(5, _)]) [5, 1, 2, 3, 4] rfl (by omega) (by repeat (first | exact Keeps.refl _ _ _ | assumption | refine Keeps.trans ?_ (by assumption) (by omega) (by simp; try omega) | refine Keeps.set ?_ (by first | exact Or.inl (by omega) | (simp; done) | (simp; omega)) | refine Keeps.del ?_ (by first | exact Or.inl (by omega) | (simp; done) | (simp; omega)))) _ (by omega) ⟨i + 1, r, rfl, rfl, (by first | omega | assumption | simp_all), (by omega), (by rw [filN_F (by omega) (by rw [al_eq hk hc]; simp only [e2, e1, e0, decide_true, decide_false, Bool.true_and, Bool.false_and, Bool.and_true, Bool.and_false])]; exact (by repeat (first | exact look_same | assumption | refine look_ne (by omega) ?_ | refine look_keep (by assumption) (by omega) (by simp; try omega) ?_))), (by rw [filN_F (by omega) (by rw [al_eq hk hc]; simp only [e2, e1, e0, decide_true, decide_false, Bool.true_and, Bool.false_and, Bool.and_true, Bool.and_false])]; exact (by repeat (first | exact look_same | assumption | refine look_ne (by omega) ?_ | refine look_keep (by assumption) (by omega) (by simp; try omega) ?_)))⟩
      ·
        try simp only [decide_eq_true_eq, decide_eq_false_iff_not, Bool.not_eq_true', Bool.not_eq_false', Bool.not_eq_true, Bool.not_eq_false] at e1
        refine stS rfl rfl ?_
        refine stS rfl rfl ?_
        refine stS rfl rfl ?_
        refine stS rfl rfl ?_
        refine stS rfl rfl ?_
        refine stS rfl rfl ?_
        refine stS rfl rfl ?_
        refine stS rfl rfl ?_
        refine stS rfl rfl ?_
        refine stS rfl rfl ?_
        refine stS rfl rfl ?_
        refine st rfl rfl (e_pickF rfl rfl) ?_
        refine stEnd (hK _ [(1, _), (2, _), (3, _), (4, _), (5, _), (75, _)] _ _ rfl ?_)
        clear hK K
        refine W.condF rfl ?_
        refine W.skip ?_
        refine blockN ?_
        refine thenN ?_
        refine W.rR [5, 1, 2, 3, 4] fun K hK => ?_
        refine st rfl rfl (e_move rfl) ?_
        refine st rfl rfl (e_add rfl rfl (inB _ (by omega))) ?_
        refine st rfl rfl (e_assign rfl) ?_
        refine stEnd (hK _ [(5, _), (1, _), (2, _), (3, _), (4, _)] _ _ rfl ?_)
        clear hK K
        exact roundN (V' := [(5, _)]) [5, 1, 2, 3, 4] rfl (by omega) (by repeat (first | exact Keeps.refl _ _ _ | assumption | refine Keeps.trans ?_ (by assumption) (by omega) (by simp; try omega) | refine Keeps.set ?_ (by first | exact Or.inl (by omega) | (simp; done) | (simp; omega)) | refine Keeps.del ?_ (by first | exact Or.inl (by omega) | (simp; done) | (simp; omega)))) _ (by omega) ⟨i + 1, r, rfl, rfl, (by first | omega | assumption | simp_all), (by omega), (by rw [filN_F (by omega) (by rw [al_eq hk hc]; simp only [e2, e1, decide_true, decide_false, Bool.true_and, Bool.false_and, Bool.and_true, Bool.and_false])]; exact (by repeat (first | exact look_same | assumption | refine look_ne (by omega) ?_ | refine look_keep (by assumption) (by omega) (by simp; try omega) ?_))), (by rw [filN_F (by omega) (by rw [al_eq hk hc]; simp only [e2, e1, decide_true, decide_false, Bool.true_and, Bool.false_and, Bool.and_true, Bool.and_false])]; exact (by repeat (first | exact look_same | assumption | refine look_ne (by omega) ?_ | refine look_keep (by assumption) (by omega) (by simp; try omega) ?_)))⟩
    ·
      try simp only [decide_eq_true_eq, decide_eq_false_iff_not, Bool.not_eq_true', Bool.not_eq_false', Bool.not_eq_true, Bool.not_eq_false] at e2
      refine stS rfl rfl ?_
      refine stS rfl rfl ?_
      refine stS rfl rfl ?_
      refine stS rfl rfl ?_
      refine stS rfl rfl ?_
      refine stS rfl rfl ?_
      refine stS rfl rfl ?_
      refine stS rfl rfl ?_
      refine stS rfl rfl ?_
      refine stS rfl rfl ?_
      refine stS rfl rfl ?_
      refine st rfl rfl (e_pickF rfl rfl) ?_
      refine st rfl rfl (e_move rfl) ?_
      refine stS rfl rfl ?_
      refine stS rfl rfl ?_
      refine stS rfl rfl ?_
      refine stS rfl rfl ?_
      refine stS rfl rfl ?_
      refine stS rfl rfl ?_
      refine stS rfl rfl ?_
      refine stS rfl rfl ?_
      refine stS rfl rfl ?_
      refine stS rfl rfl ?_
      refine stS rfl rfl ?_
      refine st rfl rfl (e_pickF rfl rfl) ?_
      refine stEnd (hK _ [(1, _), (2, _), (3, _), (4, _), (5, _), (75, _)] _ _ rfl ?_)
      clear hK K
      refine W.condF rfl ?_
      refine W.skip ?_
      refine blockN ?_
      refine thenN ?_
      refine W.rR [5, 1, 2, 3, 4] fun K hK => ?_
      refine st rfl rfl (e_move rfl) ?_
      refine st rfl rfl (e_add rfl rfl (inB _ (by omega))) ?_
      refine st rfl rfl (e_assign rfl) ?_
      refine stEnd (hK _ [(5, _), (1, _), (2, _), (3, _), (4, _)] _ _ rfl ?_)
      clear hK K
      exact roundN (V' := [(5, _)]) [5, 1, 2, 3, 4] rfl (by omega) (by repeat (first | exact Keeps.refl _ _ _ | assumption | refine Keeps.trans ?_ (by assumption) (by omega) (by simp; try omega) | refine Keeps.set ?_ (by first | exact Or.inl (by omega) | (simp; done) | (simp; omega)) | refine Keeps.del ?_ (by first | exact Or.inl (by omega) | (simp; done) | (simp; omega)))) _ (by omega) ⟨i + 1, r, rfl, rfl, (by first | omega | assumption | simp_all), (by omega), (by rw [filN_F (by omega) (by rw [al_eq hk hc]; simp only [e2, decide_true, decide_false, Bool.true_and, Bool.false_and, Bool.and_true, Bool.and_false])]; exact (by repeat (first | exact look_same | assumption | refine look_ne (by omega) ?_ | refine look_keep (by assumption) (by omega) (by simp; try omega) ?_))), (by rw [filN_F (by omega) (by rw [al_eq hk hc]; simp only [e2, decide_true, decide_false, Bool.true_and, Bool.false_and, Bool.and_true, Bool.and_false])]; exact (by repeat (first | exact look_same | assumption | refine look_ne (by omega) ?_ | refine look_keep (by assumption) (by omega) (by simp; try omega) ?_)))⟩
  ·
    try simp only [decide_eq_true_eq, decide_eq_false_iff_not, Bool.not_eq_true', Bool.not_eq_false', Bool.not_eq_true, Bool.not_eq_false] at hb1
    refine stEnd (hK _ [(1, _), (2, _), (3, _), (4, _), (5, _), (21, _)] _ _ rfl ?_)
    clear hK K
    refine W.condF rfl ?_
    refine W.exit ?_
    refine thenE ?_
    refine thenE ?_
    refine blockX ?_
    refine thenN ?_
    obtain rfl : i = (allC X Y Z).length := by omega
    rw [filN_all] at hO hG
    refine W.sR [2] fun K hK => ?_
    refine st rfl rfl (e_loadA t28 rfl rfl (by repeat (first | exact look_same | assumption | refine look_ne (by omega) ?_ | refine look_del (by omega) ?_ | refine look_keep (by assumption) (by omega) (by simp; try omega) ?_)) rfl rfl) ?_
    refine stN rfl (e_storeA t28 rfl rfl (by repeat (first | exact look_same | assumption | refine look_ne (by omega) ?_ | refine look_del (by omega) ?_ | refine look_keep (by assumption) (by omega) (by simp; try omega) ?_)) rfl rfl rfl (by decide)) ?_
    refine stEnd (hK _ [(2, _)] _ _ rfl ?_)
    clear hK K
    refine W.ret ?_
    refine ⟨.inr rfl, Ends.v1 (r) (by omega) (by repeat (first | exact self_old | assumption | refine set_old ?_ (by omega) | refine del_old ?_ (by omega) | refine keep_old (by assumption) ?_ (by omega) (by simp; try omega))) hfresh (by repeat (first | exact look_same | assumption | refine look_ne (by omega) ?_ | refine look_del (by omega) ?_ | refine look_keep (by assumption) (by omega) (by simp; try omega) ?_)) ?_ (by first | exact flat_plain _ | exact ints_plain _) (by simp [ltT, ltA, ltC, ltV]; try omega) (res1 (resC t28 rfl rfl (by repeat (first | exact look_same | assumption | refine look_ne (by omega) ?_ | refine look_del (by omega) ?_ | refine look_keep (by assumption) (by omega) (by simp; try omega) ?_)) rfl rfl) rfl) ?_⟩
    · rfl
    · simp [renT, renV, renC, renA, one, alC]
theorem spec_l2Others_n_s (p : Nat) (H : Heap) (n : Nat) (hp : p < 3) : Fn Try.prog 144 [.int .i64 (p : Nat)] H n (.tuple #[.int .i64 (o1 p : Nat), .int .i64 (o2 p : Nat)]) (H) (n) := by
  refine Fn.intro' Try.func144 rfl (by kernel_rfl) Try.ntmps144 (by simp) (by omega) fun hfresh => ?_
  show W _ _ _ ⟨[(0, _)], _, _⟩ _
  refine W.sR [0] fun K hK => ?_
  refine st rfl rfl (e_assign rfl) ?_
  refine st rfl rfl (e_assign rfl) ?_
  refine stEnd (hK _ [(0, _)] _ _ rfl ?_)
  clear hK K
  refine W.seq ?_
  refine W.sR [4] fun K hK => ?_
  refine st rfl rfl (e_move rfl) ?_
  refine stEnd (hK _ [(4, _)] _ _ rfl ?_)
  clear hK K
  refine W.block ?_
  refine W.sR [4, 5] fun K hK => ?_
  refine st rfl rfl (e_eql rfl rfl) ?_
  refine st rfl rfl (e_assign rfl) ?_
  refine stB (fun hb1 => ?_) (fun hb1 => ?_)
  ·
    try simp only [decide_eq_true_eq, decide_eq_false_iff_not, Bool.not_eq_true', Bool.not_eq_false', Bool.not_eq_true, Bool.not_eq_false] at hb1
    refine stEnd (hK _ [(4, _), (5, _)] _ _ rfl ?_)
    clear hK K
    refine W.condT rfl ?_
    refine W.sR [2, 3] fun K hK => ?_
    refine st rfl rfl (e_assign rfl) ?_
    refine st rfl rfl (e_assign rfl) ?_
    refine stEnd (hK _ [(2, _), (3, _)] _ _ rfl ?_)
    clear hK K
    refine W.ret ?_
    refine blockR ?_
    refine thenR ?_
    refine ⟨.inr rfl, Ends.v0 (by repeat (first | exact self_old | assumption | refine set_old ?_ (by omega))) hfresh (by first | rfl | (simp [ltT, ltA, ltC, ltV]; try omega)) (res2 (resT rfl) (resT rfl) rfl rfl) ?_⟩
    (rw [← oth1_cast, ← oth2_cast]; simp [oth1, oth2, *] <;> omega)
  ·
    try simp only [decide_eq_true_eq, decide_eq_false_iff_not, Bool.not_eq_true', Bool.not_eq_false', Bool.not_eq_true, Bool.not_eq_false] at hb1
    refine stEnd (hK _ [(4, _), (5, _)] _ _ rfl ?_)
    clear hK K
    refine W.condF rfl ?_
    refine W.sR [7] fun K hK => ?_
    refine st rfl rfl (e_eql rfl rfl) ?_
    refine st rfl rfl (e_assign rfl) ?_
    refine stB (fun hb2 => ?_) (fun hb2 => ?_)
    ·
      try simp only [decide_eq_true_eq, decide_eq_false_iff_not, Bool.not_eq_true', Bool.not_eq_false', Bool.not_eq_true, Bool.not_eq_false] at hb2
      refine stEnd (hK _ [(7, _)] _ _ rfl ?_)
      clear hK K
      refine W.condT rfl ?_
      refine W.sR [2, 3] fun K hK => ?_
      refine st rfl rfl (e_assign rfl) ?_
      refine st rfl rfl (e_assign rfl) ?_
      refine stEnd (hK _ [(2, _), (3, _)] _ _ rfl ?_)
      clear hK K
      refine W.ret ?_
      refine blockR ?_
      refine thenR ?_
      refine ⟨.inr rfl, Ends.v0 (by repeat (first | exact self_old | assumption | refine set_old ?_ (by omega))) hfresh (by first | rfl | (simp [ltT, ltA, ltC, ltV]; try omega)) (res2 (resT rfl) (resT rfl) rfl rfl) ?_⟩
      (rw [← oth1_cast, ← oth2_cast]; simp [oth1, oth2, *] <;> omega)
    ·
      try simp only [decide_eq_true_eq, decide_eq_false_iff_not, Bool.not_eq_true', Bool.not_eq_false', Bool.not_eq_true, Bool.not_eq_false] at hb2
      refine stEnd (hK _ [(7, _)] _ _ rfl ?_)
      clear hK K
      refine W.condF rfl ?_
      refine W.skip ?_
      refine blockN ?_
      refine thenN ?_
      refine W.sR [2, 3] fun K hK => ?_
      refine st rfl rfl (e_assign rfl) ?_
      refine st rfl rfl (e_assign rfl) ?_
      refine stEnd (hK _ [(2, _), (3, _)] _ _ rfl ?_)
      clear hK K
      refine W.ret ?_
      refine ⟨.inr rfl, Ends.v0 (by repeat (first | exact self_old | assumption | refine set_old ?_ (by omega))) hfresh (by first | rfl | (simp [ltT, ltA, ltC, ltV]; try omega)) (res2 (resT rfl) (resT rfl) rfl rfl) ?_⟩
      (rw [← oth1_cast, ← oth2_cast]; simp [oth1, oth2, *] <;> omega)
theorem spec_l2Long_s (X Y Z : Int) (sv : Value) (p : Nat) (H : Heap) (n : Nat) (hp : p < 3) : Fn Try.prog 108 [.agg #[.int .i64 X, .int .i64 Y, .int .i64 Z, sv], .int .i64 (p : Nat)] H n (.int .i64 (ci (X, Y, Z) p)) (H) (n) := by
  refine Fn.intro' Try.func108 rfl (by kernel_rfl) Try.ntmps108 (by simp) (by omega) fun hfresh => ?_
  show W _ _ _ ⟨[(0, _), (1, _)], _, _⟩ _
  refine W.sR [1, 2] fun K hK => ?_
  refine st rfl rfl (e_boxA rfl) ?_
  refine st rfl rfl (e_assign rfl) ?_
  refine stEnd (hK _ [(1, _), (2, _)] _ _ rfl ?_)
  clear hK K
  refine W.sR [4] fun K hK => ?_
  refine st rfl rfl (e_fieldAddr t28 t3 rfl rfl) ?_
  refine st rfl rfl (e_load1 t3 rfl rfl (by repeat (first | exact look_same | assumption | refine look_ne (by omega) ?_)) rfl) ?_
  refine st rfl rfl (e_fieldAddr t28 t3 rfl rfl) ?_
  refine st rfl rfl (e_load1 t3 rfl rfl (by repeat (first | exact look_same | assumption | refine look_ne (by omega) ?_)) rfl) ?_
  refine st rfl rfl (e_fieldAddr t28 t3 rfl rfl) ?_
  refine st rfl rfl (e_load1 t3 rfl rfl (by repeat (first | exact look_same | assumption | refine look_ne (by omega) ?_)) rfl) ?_
  refine st rfl rfl (e_build rfl rfl (bld72_0_1_2 _ _ _ rfl rfl rfl)) ?_
  refine st rfl rfl (e_move rfl) ?_
  refine st rfl rfl (e_index1 t72 t3 rfl rfl rfl (by omega) (by simpa using (tri_getL (a := X) (b := Y) (c := Z) hp))) ?_
  refine st rfl rfl (e_assign rfl) ?_
  refine stEnd (hK _ [(4, _)] _ _ rfl ?_)
  clear hK K
  refine W.ret ?_
  refine ⟨.inr rfl, Ends.v0 (by repeat (first | exact self_old | assumption | refine set_old ?_ (by omega))) hfresh (by first | rfl | (simp [ltT, ltA, ltC, ltV]; try omega)) (res1 (resT rfl) rfl) ?_⟩
  rfl
theorem spec_l2View_s (X Y Z : Int) (b : Nat) (ro : Bool) (cs : List C) (p : Nat) (H : Heap) (n : Nat) (hb : H b = some (.cells ro (flat cs))) (hlen : cs.length ≤ 1048576) (hv : Valid X Y Z cs) (hp : p < 3) : Fn Try.prog 135 [.agg #[.int .i64 X, .int .i64 Y, .int .i64 Z, .slice (some ⟨b, 0, none⟩) cs.length 3], .int .i64 (p : Nat)] H n (.slice (some ⟨n, 0, none⟩) (viewL X Y Z p cs).length 1) (H.set n (.cells false (ints (viewL X Y Z p cs)))) (n + 1) := by
  refine Fn.intro' Try.func135 rfl (by kernel_rfl) Try.ntmps135 (by simp) (by omega) fun hfresh => ?_
  have lt_hb := lt_fresh hfresh hb
  have hX := hv.box
  have hlb := lines_bd hX p
  have ho1 := o1_lt (p := p)
  have ho2 := o2_lt (p := p)
  show W _ _ _ ⟨[(0, _), (1, _)], _, _⟩ _
  refine W.sR [1, 2] fun K hK => ?_
  refine st rfl rfl (e_boxA rfl) ?_
  refine st rfl rfl (e_assign rfl) ?_
  refine stEnd (hK _ [(1, _), (2, _)] _ _ rfl ?_)
  clear hK K
  refine W.sR [2, 5, 6] fun K hK => ?_
  refine st rfl rfl (e_move rfl) ?_
  refine stC rfl rfl rfl (spec_l2Others_n_s _ _ _ (by first | assumption | omega)) ?_
  refine st rfl rfl (e_move rfl) ?_
  refine st rfl rfl (e_extract rfl rfl) ?_
  refine st rfl rfl (e_extract rfl rfl) ?_
  refine st rfl rfl (e_assign rfl) ?_
  refine st rfl rfl (e_assign rfl) ?_
  refine stEnd (hK _ [(2, _), (5, _), (6, _)] _ _ rfl ?_)
  clear hK K
  refine W.sD [2, 5, 6, 7] [0, 0, 3, 0, 0, 31, 63, 127, 255] (by kernel_rfl) (by kernel_rfl) fun K hK => ?_
  refine dL rfl rfl rfl (by omega) (accB_ok rfl) (e_loadA t28 rfl rfl (by repeat (first | exact look_same | assumption | refine look_ne (by omega) ?_ | refine look_keep (by assumption) (by omega) (by simp; try omega) ?_)) rfl rfl) ?_
  refine dP rfl rfl rfl (e_move rfl) ?_
  refine dC rfl rfl rfl rfl (spec_l2Long_s _ _ _ _ _ _ _ (by first | assumption | omega)) (accB_ok rfl) ?_
  refine dL rfl rfl rfl (by omega) (by repeat (first | exact trivial | refine And.intro (Or.inl rfl) ?_ | refine And.intro (Or.inr trivial) ?_ | refine And.intro (Or.inr (And.intro (Or.inl (by omega)) (by first | (simp; done) | (simp; omega)))) ?_ | refine And.intro (Or.inr (And.intro (Or.inr (by omega)) (by first | (simp; done) | (simp; omega)))) ?_ | refine And.intro (Or.inr (by simp [compat]; try omega)) ?_)) (e_loadA t28 rfl rfl (by repeat (first | exact look_same | assumption | refine look_ne (by omega) ?_ | refine look_keep (by assumption) (by omega) (by simp; try omega) ?_)) rfl rfl) ?_
  refine dP rfl rfl rfl (e_move rfl) ?_
  refine dC rfl rfl rfl rfl (spec_l2Long_s _ _ _ _ _ _ _ (by first | assumption | omega)) (accB_ok rfl) ?_
  refine dP rfl rfl rfl (e_mul rfl rfl (inB _ (by omega))) ?_
  refine dN rfl rfl rfl (e_makeK (linesOf X Y Z p) t32 t3 rfl rfl (by omega) (by decide) (by omega)) ?_
  refine dP rfl rfl rfl (e_assign rfl) ?_
  refine dEnd (hK _ [(2, _), (5, _), (6, _), (7, _)] _ _ rfl ?_)
  clear hK K
  refine W.seq ?_
  refine W.sR [2, 5, 6, 7, 8] fun K hK => ?_
  refine st rfl rfl (e_assign rfl) ?_
  refine stEnd (hK _ [(2, _), (5, _), (6, _), (7, _), (8, _)] _ _ rfl ?_)
  clear hK K
  refine W.block ?_
  refine W.ord [8, 2, 5, 6, 7] (ts' := [(8, _)] ++ [(2, _), (5, _), (6, _), (7, _)]) rfl ?_
  refine W.loopC [(8, _)] [n + 1] (fun κ V G μ => ∃ i : Nat, V = [(8, .int .i64 (i : Nat))] ∧ κ = cs.length - i ∧ (i ≤ cs.length) ∧ (G (n + 1) = some (.cells false (ints (viewN X Y Z p cs i))))) _ ⟨0, rfl, rfl, (by first | omega | assumption | rfl | simp_all), (by rw [viewN_zero, ← zeros_ints]; exact (by repeat (first | exact look_same | assumption | refine look_ne (by omega) ?_ | refine look_keep (by assumption) (by omega) (by simp; try omega) ?_)))⟩ fun κ V G μ hinv hμ hkeep hfr => ?_
  obtain ⟨i, rfl, rfl, hi, hG⟩ := hinv
  refine W.seq ?_
  refine W.sR [2, 5, 6, 7, 8, 26] fun K hK => ?_
  refine st rfl rfl (e_move rfl) ?_
  refine st rfl rfl (e_fieldAddr t28 t22 rfl rfl) ?_
  refine st rfl rfl (e_load1 t22 rfl rfl (by repeat (first | exact look_same | assumption | refine look_ne (by omega) ?_ | refine look_keep (by assumption) (by omega) (by simp; try omega) ?_)) rfl) ?_
  refine st rfl rfl (e_len t22 rfl) ?_
  refine st rfl rfl (e_lss rfl rfl) ?_
  refine stB (fun hb1 => ?_) (fun hb1 => ?_)
  ·
    try simp only [decide_eq_true_eq, decide_eq_false_iff_not, Bool.not_eq_true', Bool.not_eq_false', Bool.not_eq_true, Bool.not_eq_false] at hb1
    refine stEnd (hK _ [(2, _), (5, _), (6, _), (7, _), (8, _), (26, _)] _ _ rfl ?_)
    clear hK K
    refine W.condT rfl ?_
    refine W.skip ?_
    refine thenN ?_
    refine W.seq ?_
    refine W.block ?_
    have hc := hv.inn _ (at3_mem (show i < cs.length by omega))
    have hx := line_bd hX p hc
    have hb := viewN_bd (X := X) (Y := Y) (Z := Z) (p := p) (cs := cs) i hi (lineIx X Y Z p (at3 cs i))
    have hm := mulC_bd hX hc (o1 p) (o2 p)
    have hcb := ciC hc (o2 p)
    have hsb := ciS hX (o2 p)
    refine W.rD [2, 5, 6, 7, 8] [0, 0, 2, 0, 0, 14, 62, 126, 0, 0, 768, 2046, 0, 4096, 0, 0, 28672, 126976, 258048, 524286, 1048575, 2097151, 4194303, 8388607, 16777215] (by kernel_rfl) (by kernel_rfl) fun K hK => ?_
    refine dP rfl rfl rfl (e_move rfl) ?_
    refine dP rfl rfl rfl (e_fieldAddr t28 t22 rfl rfl) ?_
    refine dL rfl rfl rfl (by omega) (accB_ok rfl) (e_load1 t22 rfl rfl (by repeat (first | exact look_same | assumption | refine look_ne (by omega) ?_ | refine look_keep (by assumption) (by omega) (by simp; try omega) ?_)) rfl) ?_
    refine dP rfl rfl rfl (e_move rfl) ?_
    refine dP rfl rfl rfl (e_move rfl) ?_
    refine dP rfl rfl rfl (e_idxSK _ t22 t72 rfl rfl rfl (by first | omega | decide)) ?_
    refine dP rfl rfl rfl (e_idxAK _ t72 t3 rfl rfl rfl (by first | omega | decide)) ?_
    refine dL rfl rfl rfl (by omega) (accB_ok rfl) (e_load1 t3 rfl rfl (by repeat (first | exact look_same | assumption | refine look_ne (by omega) ?_ | refine look_keep (by assumption) (by omega) (by simp; try omega) ?_)) (by first | exact (flat_get (by omega) (by omega)).trans rfl | exact flat_getJ (by omega) (by omega))) ?_
    refine dL rfl rfl rfl (by omega) (accB_ok rfl) (e_loadA t28 rfl rfl (by repeat (first | exact look_same | assumption | refine look_ne (by omega) ?_ | refine look_keep (by assumption) (by omega) (by simp; try omega) ?_)) rfl rfl) ?_
    refine dP rfl rfl rfl (e_move rfl) ?_
    refine dC rfl rfl rfl rfl (spec_l2Long_s _ _ _ _ _ _ _ (by first | assumption | omega)) (by repeat (first | exact trivial | refine And.intro (Or.inl rfl) ?_ | refine And.intro (Or.inr trivial) ?_ | refine And.intro (Or.inr (And.intro (Or.inl (by omega)) (by first | (simp; done) | (simp; omega)))) ?_ | refine And.intro (Or.inr (And.intro (Or.inr (by omega)) (by first | (simp; done) | (simp; omega)))) ?_ | refine And.intro (Or.inr (by simp [compat]; try omega)) ?_)) ?_
    refine dP rfl rfl rfl (e_mul rfl rfl (inB _ (by omega))) ?_
    refine dP rfl rfl rfl (e_fieldAddr t28 t22 rfl rfl) ?_
    refine dL rfl rfl rfl (by omega) (by repeat (first | exact trivial | refine And.intro (Or.inl rfl) ?_ | refine And.intro (Or.inr trivial) ?_ | refine And.intro (Or.inr (And.intro (Or.inl (by omega)) (by first | (simp; done) | (simp; omega)))) ?_ | refine And.intro (Or.inr (And.intro (Or.inr (by omega)) (by first | (simp; done) | (simp; omega)))) ?_ | refine And.intro (Or.inr (by simp [compat]; try omega)) ?_)) (e_load1 t22 rfl rfl (by repeat (first | exact look_same | assumption | refine look_ne (by omega) ?_ | refine look_keep (by assumption) (by omega) (by simp; try omega) ?_)) rfl) ?_
    refine dP rfl rfl rfl (e_move rfl) ?_
    refine dP rfl rfl rfl (e_move rfl) ?_
    refine dP rfl rfl rfl (e_idxSK _ t22 t72 rfl rfl rfl (by first | omega | decide)) ?_
    refine dP rfl rfl rfl (e_idxAK _ t72 t3 rfl rfl rfl (by first | omega | decide)) ?_
    refine dL rfl rfl rfl (by omega) (by repeat (first | exact trivial | refine And.intro (Or.inl rfl) ?_ | refine And.intro (Or.inr trivial) ?_ | refine And.intro (Or.inr (And.intro (Or.inl (by omega)) (by first | (simp; done) | (simp; omega)))) ?_ | refine And.intro (Or.inr (And.intro (Or.inr (by omega)) (by first | (simp; done) | (simp; omega)))) ?_ | refine And.intro (Or.inr (by simp [compat]; try omega)) ?_)) (e_load1 t3 rfl rfl (by repeat (first | exact look_same | assumption | refine look_ne (by omega) ?_ | refine look_keep (by assumption) (by omega) (by simp; try omega) ?_)) (by first | exact (flat_get (by omega) (by omega)).trans rfl | exact flat_getJ (by omega) (by omega))) ?_
    refine dP rfl rfl rfl (e_add rfl rfl (inB _ (by omega))) ?_
    refine dP rfl rfl rfl (e_idxSK (lineIx X Y Z p (at3 cs i)) t32 t3 rfl rfl hx.1 hx.2) ?_
    refine dL rfl rfl rfl (by omega) (accB_ok rfl) (e_load1 t3 rfl rfl (by repeat (first | exact look_same | assumption | refine look_ne (by omega) ?_ | refine look_keep (by assumption) (by omega) (by simp; try omega) ?_)) (ints_at (by rw [viewN_length]; exact hx.2))) ?_
    refine dP rfl rfl rfl (e_add rfl rfl (inB _ (by omega))) ?_
    refine dP rfl rfl rfl (e_idxSK (lineIx X Y Z p (at3 cs i)) t32 t3 rfl rfl hx.1 hx.2) ?_
    refine dSt rfl rfl (e_store1 t3 rfl rfl rfl (by repeat (first | exact look_same | assumption | refine look_ne (by omega) ?_ | refine look_keep (by assumption) (by omega) (by simp; try omega) ?_ | refine look_hide (by omega) (by first | exact List.not_mem_nil | (simp [hidden, Nat.testBit]; done) | (simp [hidden, Nat.testBit]; omega)) ?_)) (by rw [ints_length, viewN_length]; have := hx.2; omega)) (by omega) (by first | exact List.not_mem_nil | (simp [hidden, Nat.testBit]; done) | (simp [hidden, Nat.testBit]; omega)) (accB_ok rfl) ?_
    refine dEnd (hK _ [(2, _), (5, _), (6, _), (7, _), (8, _)] _ _ rfl ?_)
    clear hK K
    refine blockN ?_
    refine thenN ?_
    refine W.rR [8, 2, 5, 6, 7] fun K hK => ?_
    refine st rfl rfl (e_move rfl) ?_
    refine st rfl rfl (e_add rfl rfl (inB _ (by omega))) ?_
    refine st rfl rfl (e_assign rfl) ?_
    refine stEnd (hK _ [(8, _), (2, _), (5, _), (6, _), (7, _)] _ _ rfl ?_)
    clear hK K
    exact roundN (V' := [(8, _)]) [8, 2, 5, 6, 7] rfl (by omega) (by repeat (first | exact Keeps.refl _ _ _ | assumption | refine Keeps.trans ?_ (by assumption) (by omega) (by simp; try omega) | refine Keeps.set ?_ (by first | exact Or.inl (by omega) | (simp; done) | (simp; omega)) | refine Keeps.del ?_ (by first | exact Or.inl (by omega) | (simp; done) | (simp; omega)))) _ (by omega) ⟨i + 1, rfl, rfl, (by first | omega | assumption | simp_all), (look_same.trans (congrArg some (congrArg (Blk.cells false) (ints_set.trans (congrArg ints (viewN_succ (by omega)))))))⟩
  ·
    try simp only [decide_eq_true_eq, decide_eq_false_iff_not, Bool.not_eq_true', Bool.not_eq_false', Bool.not_eq_true, Bool.not_eq_false] at hb1
    refine stEnd (hK _ [(2, _), (5, _), (6, _), (7, _), (8, _), (26, _)] _ _ rfl ?_)
    clear hK K
    refine W.condF rfl ?_
    refine W.exit ?_
    refine thenE ?_
    refine thenE ?_
    refine blockX ?_
    refine thenN ?_
    refine W.sR [4] fun K hK => ?_
    refine st rfl rfl (e_move rfl) ?_
    refine st rfl rfl (e_assign rfl) ?_
    refine stEnd (hK _ [(4, _)] _ _ rfl ?_)
    clear hK K
    refine W.ret ?_
    refine ⟨.inr rfl, Ends.v1 (n + 1) (by omega) (by repeat (first | exact self_old | assumption | refine set_old ?_ (by omega) | refine keep_old (by assumption) ?_ (by omega) (by simp; try omega))) hfresh (by repeat (first | exact look_same | assumption | refine look_ne (by omega) ?_ | refine look_keep (by assumption) (by omega) (by simp; try omega) ?_)) ?_ (by first | exact flat_plain _ | exact ints_plain _) (by simp [ltT, ltA, ltC, ltV]; try omega) (res1 (resT rfl) rfl) ?_⟩
    · (obtain rfl : i = cs.length := by omega); rfl
    · simp [renT, renV, renC, renA, one, viewN_length]
theorem spec_l1Least_s (a b : Int) (H : Heap) (n : Nat) : Fn Try.prog 160 [.int .i64 a, .int .i64 b] H n (.int .i64 (min a b)) (H) (n) := by
  refine Fn.intro' Try.func160 rfl (by kernel_rfl) Try.ntmps160 (by simp) (by omega) fun hfresh => ?_
  show W _ _ _ ⟨[(0, _), (1, _)], _, _⟩ _
  refine W.sR [0, 1] fun K hK => ?_
  refine st rfl rfl (e_assign rfl) ?_
  refine stEnd (hK _ [(0, _), (1, _)] _ _ rfl ?_)
  clear hK K
  refine W.seq ?_
  refine W.sR [0, 1, 7] fun K hK => ?_
  refine st rfl rfl (e_move rfl) ?_
  refine st rfl rfl (e_move rfl) ?_
  refine st rfl rfl (e_lss rfl rfl) ?_
  refine stB (fun hb1 => ?_) (fun hb1 => ?_)
  ·
    try simp only [decide_eq_true_eq, decide_eq_false_iff_not, Bool.not_eq_true', Bool.not_eq_false', Bool.not_eq_true, Bool.not_eq_false] at hb1
    refine stEnd (hK _ [(0, _), (1, _), (7, _)] _ _ rfl ?_)
    clear hK K
    refine W.condT rfl ?_
    refine W.sR [4] fun K hK => ?_
    refine st rfl rfl (e_move rfl) ?_
    refine st rfl rfl (e_assign rfl) ?_
    refine stEnd (hK _ [(4, _)] _ _ rfl ?_)
    clear hK K
    refine W.ret ?_
    refine thenR ?_
    refine ⟨.inr rfl, Ends.v0 (by repeat (first | exact self_old | assumption | refine set_old ?_ (by omega))) hfresh (by first | rfl | (simp [ltT, ltA, ltC, ltV]; try omega)) (res1 (resT rfl) rfl) ?_⟩
    congr 1; omega
  ·
    try simp only [decide_eq_true_eq, decide_eq_false_iff_not, Bool.not_eq_true', Bool.not_eq_false', Bool.not_eq_true, Bool.not_eq_false] at hb1
    refine stEnd (hK _ [(0, _), (1, _), (7, _)] _ _ rfl ?_)
    clear hK K
    refine W.condF rfl ?_
    refine W.skip ?_
    refine thenN ?_
    refine W.sR [4] fun K hK => ?_
    refine st rfl rfl (e_move rfl) ?_
    refine st rfl rfl (e_assign rfl) ?_
    refine stEnd (hK _ [(4, _)] _ _ rfl ?_)
    clear hK K
    refine W.ret ?_
    refine ⟨.inr rfl, Ends.v0 (by repeat (first | exact self_old | assumption | refine set_old ?_ (by omega))) hfresh (by first | rfl | (simp [ltT, ltA, ltC, ltV]; try omega)) (res1 (resT rfl) rfl) ?_⟩
    congr 1; omega
theorem bsl32_0 {H : Heap} {n : Nat} : cBuildSlice Try.prog 32 0 H n [] = some (.slice (some ⟨n, 0, none⟩) 0 1, H.set n (.cells false []), n + 1) := by
  simp [cBuildSlice, t32, t3, fillC, zeros, konst0, putC]
theorem bsl32_1 {H : Heap} {n : Nat} {v0 : Value} (h0 : oneV v0 = true) : cBuildSlice Try.prog 32 1 H n [(0, v0)] = some (.slice (some ⟨n, 0, none⟩) 1 1, H.set n (.cells false [v0]), n + 1) := by
  simp [cBuildSlice, t32, t3, fillC, zeros, konst0, putC, (oneV_cells h0).1]
theorem spec_l2Ones_s (b : Nat) (ro : Bool) (zs : List Int) (H : Heap) (n : Nat) (hb : H b = some (.cells ro (ints zs))) (hlen : zs.length ≤ 1048576) : Fn Try.prog 157 [.slice (some ⟨b, 0, none⟩) zs.length 1] H n (.slice (some ⟨n, 0, none⟩) (onesL zs).length 1) (H.set n (.cells false (ints (onesL zs)))) (n + 1) := by
  refine Fn.intro' Try.func157 rfl (by kernel_rfl) Try.ntmps157 (by simp) (by omega) fun hfresh => ?_
  have lt_hb := lt_fresh hfresh hb
  show W _ _ _ ⟨[(0, _)], _, _⟩ _
  refine W.sR [0] fun K hK => ?_
  refine st rfl rfl (e_assign rfl) ?_
  refine stEnd (hK _ [(0, _)] _ _ rfl ?_)
  clear hK K
  refine W.sR [0, 3] fun K hK => ?_
  refine st rfl rfl (e_buildSlice rfl rfl (bsl32_0)) ?_
  refine st rfl rfl (e_assign rfl) ?_
  refine stEnd (hK _ [(0, _), (3, _)] _ _ rfl ?_)
  clear hK K
  refine W.seq ?_
  refine W.sR [0, 3, 4] fun K hK => ?_
  refine st rfl rfl (e_assign rfl) ?_
  refine stEnd (hK _ [(0, _), (3, _), (4, _)] _ _ rfl ?_)
  clear hK K
  refine W.block ?_
  refine W.ord [3, 4, 0] (ts' := [(3, _), (4, _)] ++ [(0, _)]) rfl ?_
  refine W.loopC [(3, _), (4, _)] [n] (fun κ V G μ => ∃ i p : Nat, V = [(3, .slice (some ⟨p, 0, none⟩) (onesL (zs.take i)).length 1), (4, .int .i64 (i : Nat))] ∧ κ = zs.length - i ∧ (i ≤ zs.length) ∧ ((p = n ∨ n + 1 ≤ p) ∧ p < μ) ∧ (G p = some (.cells false (ints (onesL (zs.take i)))))) _ ⟨0, n, rfl, rfl, (by first | omega | assumption | rfl | simp_all), (by omega), look_same⟩ fun κ V G μ hinv hμ hkeep hfr => ?_
  obtain ⟨i, p, rfl, rfl, hi, hp, hG⟩ := hinv
  refine W.seq ?_
  refine W.sR [0, 3, 4, 9] fun K hK => ?_
  refine st rfl rfl (e_move rfl) ?_
  refine st rfl rfl (e_move rfl) ?_
  refine st rfl rfl (e_len t32 rfl) ?_
  refine st rfl rfl (e_lss rfl rfl) ?_
  refine stB (fun hb1 => ?_) (fun hb1 => ?_)
  ·
    try simp only [decide_eq_true_eq, decide_eq_false_iff_not, Bool.not_eq_true', Bool.not_eq_false', Bool.not_eq_true, Bool.not_eq_false] at hb1
    refine stEnd (hK _ [(0, _), (3, _), (4, _), (9, _)] _ _ rfl ?_)
    clear hK K
    refine W.condT rfl ?_
    refine W.skip ?_
    refine thenN ?_
    refine W.seq ?_
    refine W.block ?_
    refine W.rR [0, 3, 4] fun K hK => ?_
    refine st rfl rfl (e_move rfl) ?_
    refine st rfl rfl (e_move rfl) ?_
    refine st rfl rfl (e_move rfl) ?_
    refine st rfl rfl (e_idxSK _ t32 t3 rfl rfl rfl (by first | omega | decide)) ?_
    refine st rfl rfl (e_load1 t3 rfl rfl (by repeat (first | exact look_same | assumption | refine look_ne (by omega) ?_ | refine look_del (by omega) ?_ | refine look_keep (by assumption) (by omega) (by simp; try omega) ?_)) (ints_at (by omega))) ?_
    refine stC rfl rfl rfl (spec_l1Least_s _ _ _ _ ) ?_
    refine st rfl rfl (e_buildSlice rfl rfl (bsl32_1 rfl)) ?_
    refine st rfl rfl (e_append t32 t32 t3 rfl rfl (by repeat (first | exact look_same | assumption | refine look_ne (by omega) ?_ | refine look_del (by omega) ?_ | refine look_keep (by assumption) (by omega) (by simp; try omega) ?_)) (by repeat (first | exact look_same | assumption | refine look_ne (by omega) ?_ | refine look_del (by omega) ?_ | refine look_keep (by assumption) (by omega) (by simp; try omega) ?_)) (by decide) (by rw [ints_length, Nat.mul_one]) rfl (by simp [onesL]; omega)) ?_
    refine st rfl rfl (e_assign rfl) ?_
    refine stEnd (hK _ [(0, _), (3, _), (4, _)] _ _ rfl ?_)
    clear hK K
    refine blockN ?_
    refine thenN ?_
    refine W.rR [3, 4, 0] fun K hK => ?_
    refine st rfl rfl (e_move rfl) ?_
    refine st rfl rfl (e_add rfl rfl (inB _ (by omega))) ?_
    refine st rfl rfl (e_assign rfl) ?_
    refine stEnd (hK _ [(3, _), (4, _), (0, _)] _ _ rfl ?_)
    clear hK K
    exact roundN (V' := [(3, _), (4, _)]) [3, 4, 0] rfl (by omega) (by repeat (first | exact Keeps.refl _ _ _ | assumption | refine Keeps.trans ?_ (by assumption) (by omega) (by simp; try omega) | refine Keeps.set ?_ (by first | exact Or.inl (by omega) | (simp; done) | (simp; omega)) | refine Keeps.del ?_ (by first | exact Or.inl (by omega) | (simp; done) | (simp; omega)))) _ (by omega) ⟨i + 1, μ + 1, (by rw [onesL_snoc (by omega)]; simp), rfl, (by first | omega | assumption | simp_all), (by omega), (look_same.trans (congrArg some (congrArg (Blk.cells false) (by rw [onesL_snoc (by omega), ints_append]; rfl))))⟩
  ·
    try simp only [decide_eq_true_eq, decide_eq_false_iff_not, Bool.not_eq_true', Bool.not_eq_false', Bool.not_eq_true, Bool.not_eq_false] at hb1
    refine stEnd (hK _ [(0, _), (3, _), (4, _), (9, _)] _ _ rfl ?_)
    clear hK K
    refine W.condF rfl ?_
    refine W.exit ?_
    refine thenE ?_
    refine thenE ?_
    refine blockX ?_
    refine thenN ?_
    obtain rfl : i = zs.length := by omega
    rw [List.take_length] at hG
    refine W.sR [2] fun K hK => ?_
    refine st rfl rfl (e_move rfl) ?_
    refine st rfl rfl (e_assign rfl) ?_
    refine stEnd (hK _ [(2, _)] _ _ rfl ?_)
    clear hK K
    refine W.ret ?_
    refine ⟨.inr rfl, Ends.v1 (p) (by omega) (by repeat (first | exact self_old | assumption | refine set_old ?_ (by omega) | refine del_old ?_ (by omega) | refine keep_old (by assumption) ?_ (by omega) (by simp; try omega))) hfresh (by repeat (first | exact look_same | assumption | refine look_ne (by omega) ?_ | refine look_del (by omega) ?_ | refine look_keep (by assumption) (by omega) (by simp; try omega) ?_)) ?_ (by first | exact flat_plain _ | exact ints_plain _) (by simp [ltT, ltA, ltC, ltV]; try omega) (res1 (resT rfl) rfl) ?_⟩
    · rfl
    · simp [renT, renV, renC, renA, one, onesL_length]
theorem spec_l2Top_s (X Y Z : Int) (b : Nat) (ro : Bool) (cs : List C) (H : Heap) (n : Nat) (hb : H b = some (.cells ro (flat cs))) (hlen : cs.length ≤ 1048576) (hv : Valid X Y Z cs) : Fn Try.prog 141 [.agg #[.int .i64 X, .int .i64 Y, .int .i64 Z, .slice (some ⟨b, 0, none⟩) cs.length 3]] H n (.slice (some ⟨n, 0, none⟩) (onesL (viewL X Y Z 2 cs)).length 1) (H.set n (.cells false (ints (onesL (viewL X Y Z 2 cs))))) (n + 1) := by
  refine Fn.intro' Try.func141 rfl (by kernel_rfl) Try.ntmps141 (by simp) (by omega) fun hfresh => ?_
  have lt_hb := lt_fresh hfresh hb
  have hX := hv.box
  have hvl := vol_le hX
  have hlb := lines_bd hX 2
  show W _ _ _ ⟨[(0, _)], _, _⟩ _
  refine W.sR [1] fun K hK => ?_
  refine st rfl rfl (e_boxA rfl) ?_
  refine st rfl rfl (e_assign rfl) ?_
  refine stEnd (hK _ [(1, _)] _ _ rfl ?_)
  clear hK K
  refine W.sR [2] fun K hK => ?_
  refine st rfl rfl (e_loadA t28 rfl rfl (by repeat (first | exact look_same | assumption | refine look_ne (by omega) ?_)) rfl rfl) ?_
  refine stC rfl rfl rfl (spec_l2View_s _ _ _ _ _ _ 2 _ _ (by repeat (first | exact look_same | assumption | refine look_ne (by omega) ?_)) (by omega) (by assumption) (by first | assumption | omega)) ?_
  refine stC rfl rfl rfl (spec_l2Ones_s _ _ _ _ _ (by repeat (first | exact look_same | assumption | refine look_ne (by omega) ?_)) (by rw [viewL_length]; omega)) ?_
  refine st rfl rfl (e_assign rfl) ?_
  refine stEnd (hK _ [(2, _)] _ _ rfl ?_)
  clear hK K
  refine W.ret ?_
  refine ⟨.inr rfl, Ends.v1 (n + 1 + 1) (by omega) (by repeat (first | exact self_old | assumption | refine set_old ?_ (by omega))) hfresh (by repeat (first | exact look_same | assumption | refine look_ne (by omega) ?_)) ?_ (by first | exact flat_plain _ | exact ints_plain _) (by simp [ltT, ltA, ltC, ltV]; try omega) (res1 (resT rfl) rfl) ?_⟩
  · rfl
  · simp [renT, renV, renC, renA, one]
theorem spec_l2Front_s (X Y Z : Int) (b : Nat) (ro : Bool) (cs : List C) (H : Heap) (n : Nat) (hb : H b = some (.cells ro (flat cs))) (hlen : cs.length ≤ 1048576) (hv : Valid X Y Z cs) : Fn Try.prog 142 [.agg #[.int .i64 X, .int .i64 Y, .int .i64 Z, .slice (some ⟨b, 0, none⟩) cs.length 3]] H n (.slice (some ⟨n, 0, none⟩) (onesL (viewL X Y Z 1 cs)).length 1) (H.set n (.cells false (ints (onesL (viewL X Y Z 1 cs))))) (n + 1) := by
  refine Fn.intro' Try.func142 rfl (by kernel_rfl) Try.ntmps142 (by simp) (by omega) fun hfresh => ?_
  have lt_hb := lt_fresh hfresh hb
  have hX := hv.box
  have hvl := vol_le hX
  have hlb := lines_bd hX 1
  show W _ _ _ ⟨[(0, _)], _, _⟩ _
  refine W.sR [1] fun K hK => ?_
  refine st rfl rfl (e_boxA rfl) ?_
  refine st rfl rfl (e_assign rfl) ?_
  refine stEnd (hK _ [(1, _)] _ _ rfl ?_)
  clear hK K
  refine W.sR [2] fun K hK => ?_
  refine st rfl rfl (e_loadA t28 rfl rfl (by repeat (first | exact look_same | assumption | refine look_ne (by omega) ?_)) rfl rfl) ?_
  refine stC rfl rfl rfl (spec_l2View_s _ _ _ _ _ _ 1 _ _ (by repeat (first | exact look_same | assumption | refine look_ne (by omega) ?_)) (by omega) (by assumption) (by first | assumption | omega)) ?_
  refine stC rfl rfl rfl (spec_l2Ones_s _ _ _ _ _ (by repeat (first | exact look_same | assumption | refine look_ne (by omega) ?_)) (by rw [viewL_length]; omega)) ?_
  refine st rfl rfl (e_assign rfl) ?_
  refine stEnd (hK _ [(2, _)] _ _ rfl ?_)
  clear hK K
  refine W.ret ?_
  refine ⟨.inr rfl, Ends.v1 (n + 1 + 1) (by omega) (by repeat (first | exact self_old | assumption | refine set_old ?_ (by omega))) hfresh (by repeat (first | exact look_same | assumption | refine look_ne (by omega) ?_)) ?_ (by first | exact flat_plain _ | exact ints_plain _) (by simp [ltT, ltA, ltC, ltV]; try omega) (res1 (resT rfl) rfl) ?_⟩
  · rfl
  · simp [renT, renV, renC, renA, one]
theorem spec_l2Side_s (X Y Z : Int) (b : Nat) (ro : Bool) (cs : List C) (H : Heap) (n : Nat) (hb : H b = some (.cells ro (flat cs))) (hlen : cs.length ≤ 1048576) (hv : Valid X Y Z cs) : Fn Try.prog 143 [.agg #[.int .i64 X, .int .i64 Y, .int .i64 Z, .slice (some ⟨b, 0, none⟩) cs.length 3]] H n (.slice (some ⟨n, 0, none⟩) (onesL (viewL X Y Z 0 cs)).length 1) (H.set n (.cells false (ints (onesL (viewL X Y Z 0 cs))))) (n + 1) := by
  refine Fn.intro' Try.func143 rfl (by kernel_rfl) Try.ntmps143 (by simp) (by omega) fun hfresh => ?_
  have lt_hb := lt_fresh hfresh hb
  have hX := hv.box
  have hvl := vol_le hX
  have hlb := lines_bd hX 0
  show W _ _ _ ⟨[(0, _)], _, _⟩ _
  refine W.sR [1] fun K hK => ?_
  refine st rfl rfl (e_boxA rfl) ?_
  refine st rfl rfl (e_assign rfl) ?_
  refine stEnd (hK _ [(1, _)] _ _ rfl ?_)
  clear hK K
  refine W.sR [2] fun K hK => ?_
  refine st rfl rfl (e_loadA t28 rfl rfl (by repeat (first | exact look_same | assumption | refine look_ne (by omega) ?_)) rfl rfl) ?_
  refine stC rfl rfl rfl (spec_l2View_s _ _ _ _ _ _ 0 _ _ (by repeat (first | exact look_same | assumption | refine look_ne (by omega) ?_)) (by omega) (by assumption) (by first | assumption | omega)) ?_
  refine stC rfl rfl rfl (spec_l2Ones_s _ _ _ _ _ (by repeat (first | exact look_same | assumption | refine look_ne (by omega) ?_)) (by rw [viewL_length]; omega)) ?_
  refine st rfl rfl (e_assign rfl) ?_
  refine stEnd (hK _ [(2, _)] _ _ rfl ?_)
  clear hK K
  refine W.ret ?_
  refine ⟨.inr rfl, Ends.v1 (n + 1 + 1) (by omega) (by repeat (first | exact self_old | assumption | refine set_old ?_ (by omega))) hfresh (by repeat (first | exact look_same | assumption | refine look_ne (by omega) ?_)) ?_ (by first | exact flat_plain _ | exact ints_plain _) (by simp [ltT, ltA, ltC, ltV]; try omega) (res1 (resT rfl) rfl) ?_⟩
  · rfl
  · simp [renT, renV, renC, renA, one]
theorem bld38_0_1_2_3_4_5 (v0 : Value) (v1 : Value) (v2 : Value) (v3 : Value) (v4 : Value) (v5 : Value) (h0 : oneV v0 = true) (h1 : oneV v1 = true) (h2 : oneV v2 = true) (h3 : oneV v3 = true) (h4 : oneV v4 = true) (h5 : oneV v5 = true) : cBuild Try.prog 38 [(0, v0), (1, v1), (2, v2), (3, v3), (4, v4), (5, v5)] = some (.agg #[v0, v1, v2, v3, v4, v5]) := by
  simp [cBuild, t38, t3, t32, fieldsOk, placesC, fillC, konst0, putC, (oneV_cells h0).1, (oneV_cells h1).1, (oneV_cells h2).1, (oneV_cells h3).1, (oneV_cells h4).1, (oneV_cells h5).1]
theorem spec_l3Of_s (X Y Z : Int) (b : Nat) (ro : Bool) (cs : List C) (H : Heap) (n : Nat) (hb : H b = some (.cells ro (flat cs))) (hlen : cs.length ≤ 1048576) (hv : Valid X Y Z cs) : Fn Try.prog 89 [.agg #[.int .i64 X, .int .i64 Y, .int .i64 Z, .slice (some ⟨b, 0, none⟩) cs.length 3]] H n (.agg #[.int .i64 X, .int .i64 Y, .int .i64 Z, .slice (some ⟨n, 0, none⟩) (onesL (viewL X Y Z 2 cs)).length 1, .slice (some ⟨n + 1, 0, none⟩) (onesL (viewL X Y Z 1 cs)).length 1, .slice (some ⟨n + 1 + 1, 0, none⟩) (onesL (viewL X Y Z 0 cs)).length 1]) (((H.set n (.cells false (ints (onesL (viewL X Y Z 2 cs))))).set (n + 1) (.cells false (ints (onesL (viewL X Y Z 1 cs))))).set (n + 1 + 1) (.cells false (ints (onesL (viewL X Y Z 0 cs))))) (n + 1 + 1 + 1) := by
  refine Fn.intro' Try.func89 rfl (by kernel_rfl) Try.ntmps89 (by simp) (by omega) fun hfresh => ?_
  have lt_hb := lt_fresh hfresh hb
  have hX := hv.box
  have hvl := vol_le hX
  show W _ _ _ ⟨[(0, _)], _, _⟩ _
  refine W.sR [1, 2] fun K hK => ?_
  refine st rfl rfl (e_boxA rfl) ?_
  refine st rfl rfl (e_alloc t38 rfl) ?_
  refine stEnd (hK _ [(1, _), (2, _)] _ _ rfl ?_)
  clear hK K
  refine W.sD [2] [0, 1, 0, 4, 0, 16, 0, 64, 0, 448, 0, 1984, 4095, 8191] (by kernel_rfl) (by kernel_rfl) fun K hK => ?_
  refine dP rfl rfl rfl (e_fieldAddr t28 t3 rfl rfl) ?_
  refine dL rfl rfl rfl (by omega) (accB_ok rfl) (e_load1 t3 rfl rfl (by repeat (first | exact look_same | assumption | refine look_ne (by omega) ?_)) rfl) ?_
  refine dP rfl rfl rfl (e_fieldAddr t28 t3 rfl rfl) ?_
  refine dL rfl rfl rfl (by omega) (accB_ok rfl) (e_load1 t3 rfl rfl (by repeat (first | exact look_same | assumption | refine look_ne (by omega) ?_)) rfl) ?_
  refine dP rfl rfl rfl (e_fieldAddr t28 t3 rfl rfl) ?_
  refine dL rfl rfl rfl (by omega) (accB_ok rfl) (e_load1 t3 rfl rfl (by repeat (first | exact look_same | assumption | refine look_ne (by omega) ?_)) rfl) ?_
  refine dL rfl rfl rfl (by omega) (accB_ok rfl) (e_loadA t28 rfl rfl (by repeat (first | exact look_same | assumption | refine look_ne (by omega) ?_)) rfl rfl) ?_
  refine dC1 rfl rfl rfl rfl (spec_l2Top_s _ _ _ _ _ _ _ _ (by repeat (first | exact look_same | assumption | refine look_ne (by omega) ?_ | refine look_hide (by omega) (by first | exact List.not_mem_nil | (simp [hidden, Nat.testBit]; done) | (simp [hidden, Nat.testBit]; omega)) ?_)) (by omega) (by assumption)) (by repeat (first | exact trivial | refine And.intro (Or.inl rfl) ?_ | refine And.intro (Or.inr trivial) ?_ | refine And.intro (Or.inr (And.intro (Or.inl (by omega)) (by first | (simp; done) | (simp; omega)))) ?_ | refine And.intro (Or.inr (And.intro (Or.inr (by omega)) (by first | (simp; done) | (simp; omega)))) ?_ | refine And.intro (Or.inr (by simp [compat]; try omega)) ?_)) (by first | exact List.not_mem_nil | (simp [hidden, Nat.testBit]; done) | (simp [hidden, Nat.testBit]; omega)) ?_
  refine dL rfl rfl rfl (by omega) (by repeat (first | exact trivial | refine And.intro (Or.inl rfl) ?_ | refine And.intro (Or.inr trivial) ?_ | refine And.intro (Or.inr (And.intro (Or.inl (by omega)) (by first | (simp; done) | (simp; omega)))) ?_ | refine And.intro (Or.inr (And.intro (Or.inr (by omega)) (by first | (simp; done) | (simp; omega)))) ?_ | refine And.intro (Or.inr (by simp [compat]; try omega)) ?_)) (e_loadA t28 rfl rfl (by repeat (first | exact look_same | assumption | refine look_ne (by omega) ?_)) rfl rfl) ?_
  refine dC1 rfl rfl rfl rfl (spec_l2Front_s _ _ _ _ _ _ _ _ (by repeat (first | exact look_same | assumption | refine look_ne (by omega) ?_ | refine look_hide (by omega) (by first | exact List.not_mem_nil | (simp [hidden, Nat.testBit]; done) | (simp [hidden, Nat.testBit]; omega)) ?_)) (by omega) (by assumption)) (by repeat (first | exact trivial | refine And.intro (Or.inl rfl) ?_ | refine And.intro (Or.inr trivial) ?_ | refine And.intro (Or.inr (And.intro (Or.inl (by omega)) (by first | (simp; done) | (simp; omega)))) ?_ | refine And.intro (Or.inr (And.intro (Or.inr (by omega)) (by first | (simp; done) | (simp; omega)))) ?_ | refine And.intro (Or.inr (by simp [compat]; try omega)) ?_)) (by first | exact List.not_mem_nil | (simp [hidden, Nat.testBit]; done) | (simp [hidden, Nat.testBit]; omega)) ?_
  refine dL rfl rfl rfl (by omega) (by repeat (first | exact trivial | refine And.intro (Or.inl rfl) ?_ | refine And.intro (Or.inr trivial) ?_ | refine And.intro (Or.inr (And.intro (Or.inl (by omega)) (by first | (simp; done) | (simp; omega)))) ?_ | refine And.intro (Or.inr (And.intro (Or.inr (by omega)) (by first | (simp; done) | (simp; omega)))) ?_ | refine And.intro (Or.inr (by simp [compat]; try omega)) ?_)) (e_loadA t28 rfl rfl (by repeat (first | exact look_same | assumption | refine look_ne (by omega) ?_)) rfl rfl) ?_
  refine dC1 rfl rfl rfl rfl (spec_l2Side_s _ _ _ _ _ _ _ _ (by repeat (first | exact look_same | assumption | refine look_ne (by omega) ?_ | refine look_hide (by omega) (by first | exact List.not_mem_nil | (simp [hidden, Nat.testBit]; done) | (simp [hidden, Nat.testBit]; omega)) ?_)) (by omega) (by assumption)) (by repeat (first | exact trivial | refine And.intro (Or.inl rfl) ?_ | refine And.intro (Or.inr trivial) ?_ | refine And.intro (Or.inr (And.intro (Or.inl (by omega)) (by first | (simp; done) | (simp; omega)))) ?_ | refine And.intro (Or.inr (And.intro (Or.inr (by omega)) (by first | (simp; done) | (simp; omega)))) ?_ | refine And.intro (Or.inr (by simp [compat]; try omega)) ?_)) (by first | exact List.not_mem_nil | (simp [hidden, Nat.testBit]; done) | (simp [hidden, Nat.testBit]; omega)) ?_
  refine dP rfl rfl rfl (e_build rfl rfl (bld38_0_1_2_3_4_5 _ _ _ _ _ _ rfl rfl rfl rfl rfl rfl)) ?_
  refine dSt rfl rfl (e_storeA t38 rfl rfl (by repeat (first | exact look_same | assumption | refine look_ne (by omega) ?_ | refine look_hide (by omega) (by first | exact List.not_mem_nil | (simp [hidden, Nat.testBit]; done) | (simp [hidden, Nat.testBit]; omega)) ?_)) rfl rfl rfl (by decide)) (by omega) (by first | exact List.not_mem_nil | (simp [hidden, Nat.testBit]; done) | (simp [hidden, Nat.testBit]; omega)) (accB_ok rfl) ?_
  refine dEnd (hK _ [(2, _)] _ _ rfl ?_)
  clear hK K
  refine W.ret ?_
  refine ⟨.inr rfl, Ends.v3 (n + 1 + 1) (n + 1 + 1 + 1) (n + 1 + 1 + 1 + 1) (by omega) (by repeat (first | exact self_old | assumption | refine set_old ?_ (by omega))) hfresh (by repeat (first | exact look_same | assumption | refine look_ne (by omega) ?_)) (by repeat (first | exact look_same | assumption | refine look_ne (by omega) ?_)) (by repeat (first | exact look_same | assumption | refine look_ne (by omega) ?_)) ⟨ints_plain _, ints_plain _, ints_plain _⟩ (by simp [ltT, ltA, ltC, ltV]; try omega) (res1 (resC t38 rfl rfl (by repeat (first | exact look_same | assumption | refine look_ne (by omega) ?_)) rfl rfl) rfl) ?_ ?_⟩
  · exact ⟨rfl, rfl, rfl⟩
  · simp [renT, renV, renC, renA, nm0, nm1, nm2, pick3, onesL_length]
theorem spec_CleanShadow_ok_s (X Y Z : Int) (b0 b1 b2 : Nat) (r0 r1 r2 : Bool) (x0 x1 x2 : List Int) (H : Heap) (n : Nat) (hb0 : H b0 = some (.cells r0 (ints x0))) (hb1 : H b1 = some (.cells r1 (ints x1))) (hb2 : H b2 = some (.cells r2 (ints x2))) (hl0 : x0.length ≤ 1048576) (hl1 : x1.length ≤ 1048576) (hl2 : x2.length ≤ 1048576) (hok : shadB X Y Z x0 x1 x2 = true) : Fn Try.prog 37 [.agg #[.int .i64 X, .int .i64 Y, .int .i64 Z, .slice (some ⟨b0, 0, none⟩) x0.length 1, .slice (some ⟨b1, 0, none⟩) x1.length 1, .slice (some ⟨b2, 0, none⟩) x2.length 1]] H n (.tuple #[.agg #[.int .i64 X, .int .i64 Y, .int .i64 Z, .slice (some ⟨n, 0, none⟩) (onesL (viewL X Y Z 2 (alC X Y Z x0 x1 x2))).length 1, .slice (some ⟨n + 1, 0, none⟩) (onesL (viewL X Y Z 1 (alC X Y Z x0 x1 x2))).length 1, .slice (some ⟨n + 1 + 1, 0, none⟩) (onesL (viewL X Y Z 0 (alC X Y Z x0 x1 x2))).length 1], .bool true]) (((H.set n (.cells false (ints (onesL (viewL X Y Z 2 (alC X Y Z x0 x1 x2)))))).set (n + 1) (.cells false (ints (onesL (viewL X Y Z 1 (alC X Y Z x0 x1 x2)))))).set (n + 1 + 1) (.cells false (ints (onesL (viewL X Y Z 0 (alC X Y Z x0 x1 x2)))))) (n + 1 + 1 + 1) := by
  refine Fn.intro' Try.func37 rfl (by kernel_rfl) Try.ntmps37 (by simp) (by omega) fun hfresh => ?_
  have lt_hb0 := lt_fresh hfresh hb0
  have lt_hb1 := lt_fresh hfresh hb1
  have lt_hb2 := lt_fresh hfresh hb2
  have hk := shOk hok
  have hX := hk.box
  have hal := alC_valid (x0 := x0) (x1 := x1) (x2 := x2) hX
  have hall := hal.len_vol
  have hvl := vol_le hX
  show W _ _ _ ⟨[(0, _)], _, _⟩ _
  refine W.sR [1, 2] fun K hK => ?_
  refine st rfl rfl (e_boxA rfl) ?_
  refine st rfl rfl (e_alloc t38 rfl) ?_
  refine st rfl rfl (e_assign rfl) ?_
  refine stEnd (hK _ [(1, _), (2, _)] _ _ rfl ?_)
  clear hK K
  refine W.seq ?_
  refine W.sR [1, 2, 6] fun K hK => ?_
  refine st rfl rfl (e_loadA t38 rfl rfl (by repeat (first | exact look_same | assumption | refine look_ne (by omega) ?_)) rfl rfl) ?_
  refine stC rfl rfl rfl (spec_l3Shadow_s _ _ _ _ _ _ _ _ _ _ _ _ _ _ (by repeat (first | exact look_same | assumption | refine look_ne (by omega) ?_)) (by repeat (first | exact look_same | assumption | refine look_ne (by omega) ?_)) (by repeat (first | exact look_same | assumption | refine look_ne (by omega) ?_)) (by omega) (by omega) (by omega)) ?_
  rw [hok]
  refine st rfl rfl (e_not rfl) ?_
  refine stEnd (hK _ [(1, _), (2, _), (6, _)] _ _ rfl ?_)
  clear hK K
  refine W.condF rfl ?_
  refine W.skip ?_
  refine thenN ?_
  refine W.sR [2, 3] fun K hK => ?_
  refine st rfl rfl (e_loadA t38 rfl rfl (by repeat (first | exact look_same | assumption | refine look_ne (by omega) ?_)) rfl rfl) ?_
  refine stC rfl rfl rfl (spec_l3Allowed_s _ _ _ _ _ _ _ _ _ _ _ _ _ _ (by repeat (first | exact look_same | assumption | refine look_ne (by omega) ?_)) (by repeat (first | exact look_same | assumption | refine look_ne (by omega) ?_)) (by repeat (first | exact look_same | assumption | refine look_ne (by omega) ?_)) (by assumption)) ?_
  refine stC rfl rfl rfl (spec_l3Of_s _ _ _ _ _ (alC X Y Z x0 x1 x2) _ _ (by repeat (first | exact look_same | assumption | refine look_ne (by omega) ?_)) (by omega) hal) ?_
  refine stN rfl (e_storeA t38 rfl rfl (by repeat (first | exact look_same | assumption | refine look_ne (by omega) ?_)) rfl rfl rfl (by decide)) ?_
  refine st rfl rfl (e_assign rfl) ?_
  refine stEnd (hK _ [(2, _), (3, _)] _ _ rfl ?_)
  clear hK K
  refine W.ret ?_
  refine ⟨.inr rfl, Ends.v3 (n + 1 + 1 + 1) (n + 1 + 1 + 1 + 1) (n + 1 + 1 + 1 + 1 + 1) (by omega) (by repeat (first | exact self_old | assumption | refine set_old ?_ (by omega))) hfresh (by repeat (first | exact look_same | assumption | refine look_ne (by omega) ?_)) (by repeat (first | exact look_same | assumption | refine look_ne (by omega) ?_)) (by repeat (first | exact look_same | assumption | refine look_ne (by omega) ?_)) ⟨ints_plain _, ints_plain _, ints_plain _⟩ (by simp [ltT, ltA, ltC, ltV]; try omega) (res2 (resC t38 rfl rfl (by repeat (first | exact look_same | assumption | refine look_ne (by omega) ?_)) rfl rfl) (resT rfl) rfl rfl) ?_ ?_⟩
  · exact ⟨rfl, rfl, rfl⟩
  · simp [renT, renV, renC, renA, nm0, nm1, nm2, pick3, onesL_length]
theorem bld75_0_1_2 (v0 : Value) (v1 : Value) (v2 : Value) (h0 : oneV v0 = true) (h1 : oneV v1 = true) (h2 : oneV v2 = true) : cBuild Try.prog 75 [(0, v0), (1, v1), (2, v2)] = some (.agg #[v0, v1, v2]) := by
  simp [cBuild, t75, t3, fieldsOk, placesC, fillC, konst0, putC, (oneV_cells h0).1, (oneV_cells h1).1, (oneV_cells h2).1]
theorem impl_Shadow_box_s (X Y Z : Int) (s0 s1 s2 : Value) (H : Heap) (n : Nat) : Fn Try.prog 85 [.agg #[.int .i64 X, .int .i64 Y, .int .i64 Z, s0, s1, s2]] H n (.agg #[.int .i64 X, .int .i64 Y, .int .i64 Z]) (H) (n) := by
  refine Fn.intro' Try.func85 rfl (by kernel_rfl) Try.ntmps85 (by simp) (by omega) fun hfresh => ?_
  show W _ _ _ ⟨[(0, _)], _, _⟩ _
  refine W.sR [1, 2] fun K hK => ?_
  refine st rfl rfl (e_boxA rfl) ?_
  refine st rfl rfl (e_alloc t75 rfl) ?_
  refine stEnd (hK _ [(1, _), (2, _)] _ _ rfl ?_)
  clear hK K
  refine W.sR [2] fun K hK => ?_
  refine st rfl rfl (e_fieldAddr t38 t3 rfl rfl) ?_
  refine st rfl rfl (e_load1 t3 rfl rfl (by repeat (first | exact look_same | assumption | refine look_ne (by omega) ?_)) rfl) ?_
  refine st rfl rfl (e_fieldAddr t38 t3 rfl rfl) ?_
  refine st rfl rfl (e_load1 t3 rfl rfl (by repeat (first | exact look_same | assumption | refine look_ne (by omega) ?_)) rfl) ?_
  refine st rfl rfl (e_fieldAddr t38 t3 rfl rfl) ?_
  refine st rfl rfl (e_load1 t3 rfl rfl (by repeat (first | exact look_same | assumption | refine look_ne (by omega) ?_)) rfl) ?_
  refine st rfl rfl (e_build rfl rfl (bld75_0_1_2 _ _ _ rfl rfl rfl)) ?_
  refine stN rfl (e_storeA t75 rfl rfl (by repeat (first | exact look_same | assumption | refine look_ne (by omega) ?_)) rfl rfl rfl (by decide)) ?_
  refine stEnd (hK _ [(2, _)] _ _ rfl ?_)
  clear hK K
  refine W.ret ?_
  refine ⟨.inr rfl, Ends.v0 (by repeat (first | exact self_old | assumption | refine set_old ?_ (by omega))) hfresh (by first | rfl | (simp [ltT, ltA, ltC, ltV]; try omega)) (res1 (resC t75 rfl rfl (by repeat (first | exact look_same | assumption | refine look_ne (by omega) ?_)) rfl rfl) rfl) ?_⟩
  rfl
theorem impl_within_s (a b c : Int) (H : Heap) (n : Nat) : Fn Try.prog 110 [.int .i64 a, .int .i64 b, .int .i64 c] H n (.bool (within a b c)) (H) (n) := by
  refine Fn.intro' Try.func110 rfl (by kernel_rfl) Try.ntmps110 (by simp) (by omega) fun hfresh => ?_
  show W _ _ _ ⟨[(0, _), (1, _), (2, _)], _, _⟩ _
  refine W.sR [0, 1, 2] fun K hK => ?_
  refine st rfl rfl (e_assign rfl) ?_
  refine stEnd (hK _ [(0, _), (1, _), (2, _)] _ _ rfl ?_)
  clear hK K
  refine W.sR [6] fun K hK => ?_
  refine st rfl rfl (e_move rfl) ?_
  refine st rfl rfl (e_move rfl) ?_
  refine st rfl rfl (e_geq rfl rfl) ?_
  refine st rfl rfl (e_move rfl) ?_
  refine stB (fun hb1 => ?_) (fun hb1 => ?_)
  ·
    try simp only [decide_eq_true_eq, decide_eq_false_iff_not, Bool.not_eq_true', Bool.not_eq_false', Bool.not_eq_true, Bool.not_eq_false] at hb1
    refine st rfl rfl (e_move rfl) ?_
    refine st rfl rfl (e_move rfl) ?_
    refine st rfl rfl (e_leq rfl rfl) ?_
    refine st rfl rfl (e_pickT rfl rfl) ?_
    refine st rfl rfl (e_assign rfl) ?_
    refine stEnd (hK _ [(6, _)] _ _ rfl ?_)
    clear hK K
    refine W.ret ?_
    refine ⟨.inr rfl, Ends.v0 (by repeat (first | exact self_old | assumption | refine set_old ?_ (by omega))) hfresh (by first | rfl | (simp [ltT, ltA, ltC, ltV]; try omega)) (res1 (resT rfl) rfl) ?_⟩
    simp [within, *] <;> omega
  ·
    try simp only [decide_eq_true_eq, decide_eq_false_iff_not, Bool.not_eq_true', Bool.not_eq_false', Bool.not_eq_true, Bool.not_eq_false] at hb1
    refine stS rfl rfl ?_
    refine stS rfl rfl ?_
    refine stS rfl rfl ?_
    refine st rfl rfl (e_pickF rfl rfl) ?_
    refine st rfl rfl (e_assign rfl) ?_
    refine stEnd (hK _ [(6, _)] _ _ rfl ?_)
    clear hK K
    refine W.ret ?_
    refine ⟨.inr rfl, Ends.v0 (by repeat (first | exact self_old | assumption | refine set_old ?_ (by omega))) hfresh (by first | rfl | (simp [ltT, ltA, ltC, ltV]; try omega)) (res1 (resT rfl) rfl) ?_⟩
    simp [within, *] <;> omega
theorem impl_box_valid_s (X Y Z : Int) (H : Heap) (n : Nat) : Fn Try.prog 119 [.agg #[.int .i64 X, .int .i64 Y, .int .i64 Z]] H n (.bool (sides X Y Z)) (H) (n) := by
  refine Fn.intro' Try.func119 rfl (by kernel_rfl) Try.ntmps119 (by simp) (by omega) fun hfresh => ?_
  show W _ _ _ ⟨[(0, _)], _, _⟩ _
  refine W.sR [1] fun K hK => ?_
  refine st rfl rfl (e_boxA rfl) ?_
  refine st rfl rfl (e_assign rfl) ?_
  refine stEnd (hK _ [(1, _)] _ _ rfl ?_)
  clear hK K
  refine W.sR [2] fun K hK => ?_
  refine st rfl rfl (e_idxAK (0) t75 t3 rfl rfl (by first | rfl | omega) (by first | omega | decide)) ?_
  refine st rfl rfl (e_load1 t3 rfl rfl (by repeat (first | exact look_same | assumption | refine look_ne (by omega) ?_)) (by first | rfl | exact tri_getL (by omega))) ?_
  refine stC rfl rfl rfl (impl_within_s _ _ _ _ _ ) ?_
  refine st rfl rfl (e_move rfl) ?_
  refine stB (fun hb1 => ?_) (fun hb1 => ?_)
  ·
    try simp only [decide_eq_true_eq, decide_eq_false_iff_not, Bool.not_eq_true', Bool.not_eq_false', Bool.not_eq_true, Bool.not_eq_false] at hb1
    refine st rfl rfl (e_idxAK (1) t75 t3 rfl rfl (by first | rfl | omega) (by first | omega | decide)) ?_
    refine st rfl rfl (e_load1 t3 rfl rfl (by repeat (first | exact look_same | assumption | refine look_ne (by omega) ?_)) (by first | rfl | exact tri_getL (by omega))) ?_
    refine stC rfl rfl rfl (impl_within_s _ _ _ _ _ ) ?_
    refine st rfl rfl (e_pickT rfl rfl) ?_
    refine st rfl rfl (e_move rfl) ?_
    refine stB (fun hb2 => ?_) (fun hb2 => ?_)
    ·
      try simp only [decide_eq_true_eq, decide_eq_false_iff_not, Bool.not_eq_true', Bool.not_eq_false', Bool.not_eq_true, Bool.not_eq_false] at hb2
      refine st rfl rfl (e_idxAK (2) t75 t3 rfl rfl (by first | rfl | omega) (by first | omega | decide)) ?_
      refine st rfl rfl (e_load1 t3 rfl rfl (by repeat (first | exact look_same | assumption | refine look_ne (by omega) ?_)) (by first | rfl | exact tri_getL (by omega))) ?_
      refine stC rfl rfl rfl (impl_within_s _ _ _ _ _ ) ?_
      refine st rfl rfl (e_pickT rfl rfl) ?_
      refine st rfl rfl (e_assign rfl) ?_
      refine stEnd (hK _ [(2, _)] _ _ rfl ?_)
      clear hK K
      refine W.ret ?_
      refine ⟨.inr rfl, Ends.v0 (by repeat (first | exact self_old | assumption | refine set_old ?_ (by omega))) hfresh (by first | rfl | (simp [ltT, ltA, ltC, ltV]; try omega)) (res1 (resT rfl) rfl) ?_⟩
      simp_all [sides]
    ·
      try simp only [decide_eq_true_eq, decide_eq_false_iff_not, Bool.not_eq_true', Bool.not_eq_false', Bool.not_eq_true, Bool.not_eq_false] at hb2
      refine stS rfl rfl ?_
      refine stS rfl rfl ?_
      refine stS rfl rfl ?_
      refine st rfl rfl (e_pickF rfl rfl) ?_
      refine st rfl rfl (e_assign rfl) ?_
      refine stEnd (hK _ [(2, _)] _ _ rfl ?_)
      clear hK K
      refine W.ret ?_
      refine ⟨.inr rfl, Ends.v0 (by repeat (first | exact self_old | assumption | refine set_old ?_ (by omega))) hfresh (by first | rfl | (simp [ltT, ltA, ltC, ltV]; try omega)) (res1 (resT rfl) rfl) ?_⟩
      simp_all [sides]
  ·
    try simp only [decide_eq_true_eq, decide_eq_false_iff_not, Bool.not_eq_true', Bool.not_eq_false', Bool.not_eq_true, Bool.not_eq_false] at hb1
    refine stS rfl rfl ?_
    refine stS rfl rfl ?_
    refine stS rfl rfl ?_
    refine st rfl rfl (e_pickF rfl rfl) ?_
    refine st rfl rfl (e_move rfl) ?_
    refine stS rfl rfl ?_
    refine stS rfl rfl ?_
    refine stS rfl rfl ?_
    refine st rfl rfl (e_pickF rfl rfl) ?_
    refine st rfl rfl (e_assign rfl) ?_
    refine stEnd (hK _ [(2, _)] _ _ rfl ?_)
    clear hK K
    refine W.ret ?_
    refine ⟨.inr rfl, Ends.v0 (by repeat (first | exact self_old | assumption | refine set_old ?_ (by omega))) hfresh (by first | rfl | (simp [ltT, ltA, ltC, ltV]; try omega)) (res1 (resT rfl) rfl) ?_⟩
    simp_all [sides]
theorem bld137_0_1_2 (v0 : Value) (v1 : Value) (v2 : Value) (h0 : oneV v0 = true) (h1 : oneV v1 = true) (h2 : oneV v2 = true) : cBuild Try.prog 137 [(0, v0), (1, v1), (2, v2)] = some (.agg #[v0, v1, v2]) := by
  simp [cBuild, t137, t32, fieldsOk, placesC, fillC, konst0, putC, (oneV_cells h0).1, (oneV_cells h1).1, (oneV_cells h2).1]
theorem impl_Shadow_list_s (X Y Z : Int) (b0 b1 b2 m0 m1 m2 d : Nat) (H : Heap) (n : Nat) (hd : d < 3) (hlt : b0 < n ∧ b1 < n ∧ b2 < n) : Fn Try.prog 127 [.agg #[.int .i64 X, .int .i64 Y, .int .i64 Z, .slice (some ⟨b0, 0, none⟩) m0 1, .slice (some ⟨b1, 0, none⟩) m1 1, .slice (some ⟨b2, 0, none⟩) m2 1], .int .i64 (d : Nat)] H n (.slice (some ⟨pick3 b2 b1 b0 d, 0, none⟩) (pick3 m2 m1 m0 d) 1) (H) (n) := by
  refine Fn.intro' Try.func127 rfl (by kernel_rfl) Try.ntmps127 (by simp) (by omega) fun hfresh => ?_
  have hpl := pick_lt (d := d) hlt.2.2 hlt.2.1 hlt.1
  show W _ _ _ ⟨[(0, _), (1, _)], _, _⟩ _
  refine W.sR [1, 2] fun K hK => ?_
  refine st rfl rfl (e_boxA rfl) ?_
  refine st rfl rfl (e_assign rfl) ?_
  refine stEnd (hK _ [(1, _), (2, _)] _ _ rfl ?_)
  clear hK K
  refine W.sR [4] fun K hK => ?_
  refine st rfl rfl (e_fieldAddr t38 t32 rfl rfl) ?_
  refine st rfl rfl (e_load1 t32 rfl rfl (by repeat (first | exact look_same | assumption | refine look_ne (by omega) ?_)) rfl) ?_
  refine st rfl rfl (e_fieldAddr t38 t32 rfl rfl) ?_
  refine st rfl rfl (e_load1 t32 rfl rfl (by repeat (first | exact look_same | assumption | refine look_ne (by omega) ?_)) rfl) ?_
  refine st rfl rfl (e_fieldAddr t38 t32 rfl rfl) ?_
  refine st rfl rfl (e_load1 t32 rfl rfl (by repeat (first | exact look_same | assumption | refine look_ne (by omega) ?_)) rfl) ?_
  refine st rfl rfl (e_build rfl rfl (bld137_0_1_2 _ _ _ rfl rfl rfl)) ?_
  refine st rfl rfl (e_move rfl) ?_
  refine st rfl rfl (e_index1 t137 t32 rfl rfl rfl (by omega) (pick3_get hd)) ?_
  refine st rfl rfl (e_assign rfl) ?_
  refine stEnd (hK _ [(4, _)] _ _ rfl ?_)
  clear hK K
  refine W.ret ?_
  refine ⟨.inr rfl, Ends.v0 (by repeat (first | exact self_old | assumption | refine set_old ?_ (by omega))) hfresh (by first | rfl | (simp [ltT, ltA, ltC, ltV]; try omega)) (res1 (resT rfl) rfl) ?_⟩
  rfl
theorem impl_box_size_s (X Y Z : Int) (H : Heap) (n : Nat) (hX : (1 ≤ X ∧ X ≤ 4) ∧ (1 ≤ Y ∧ Y ≤ 4) ∧ (1 ≤ Z ∧ Z ≤ 4)) : Fn Try.prog 132 [.agg #[.int .i64 X, .int .i64 Y, .int .i64 Z]] H n (.int .i64 ((vol X Y Z : Nat) : Int)) (H) (n) := by
  refine Fn.intro' Try.func132 rfl (by kernel_rfl) Try.ntmps132 (by simp) (by omega) fun hfresh => ?_
  have hv := vol_cast hX
  have hv2 := vol_le hX
  have hxy := mulXY hX.1 hX.2.1
  show W _ _ _ ⟨[(0, _)], _, _⟩ _
  refine W.sR [1] fun K hK => ?_
  refine st rfl rfl (e_boxA rfl) ?_
  refine st rfl rfl (e_assign rfl) ?_
  refine stEnd (hK _ [(1, _)] _ _ rfl ?_)
  clear hK K
  refine W.sR [2] fun K hK => ?_
  refine st rfl rfl (e_idxAK (0) t75 t3 rfl rfl (by first | rfl | omega) (by first | omega | decide)) ?_
  refine st rfl rfl (e_load1 t3 rfl rfl (by repeat (first | exact look_same | assumption | refine look_ne (by omega) ?_)) (by first | rfl | exact tri_getL (by omega))) ?_
  refine st rfl rfl (e_idxAK (1) t75 t3 rfl rfl (by first | rfl | omega) (by first | omega | decide)) ?_
  refine st rfl rfl (e_load1 t3 rfl rfl (by repeat (first | exact look_same | assumption | refine look_ne (by omega) ?_)) (by first | rfl | exact tri_getL (by omega))) ?_
  refine st rfl rfl (e_mul rfl rfl (inB _ (by omega))) ?_
  refine st rfl rfl (e_idxAK (2) t75 t3 rfl rfl (by first | rfl | omega) (by first | omega | decide)) ?_
  refine st rfl rfl (e_load1 t3 rfl rfl (by repeat (first | exact look_same | assumption | refine look_ne (by omega) ?_)) (by first | rfl | exact tri_getL (by omega))) ?_
  refine st rfl rfl (e_mul rfl rfl (inB _ (by omega))) ?_
  refine st rfl rfl (e_assign rfl) ?_
  refine stEnd (hK _ [(2, _)] _ _ rfl ?_)
  clear hK K
  refine W.ret ?_
  refine ⟨.inr rfl, Ends.v0 (by repeat (first | exact self_old | assumption | refine set_old ?_ (by omega))) hfresh (by first | rfl | (simp [ltT, ltA, ltC, ltV]; try omega)) (res1 (resT rfl) rfl) ?_⟩
  rw [← hv]
theorem impl_box_lines_s (X Y Z : Int) (p : Nat) (H : Heap) (n : Nat) (hX : (1 ≤ X ∧ X ≤ 4) ∧ (1 ≤ Y ∧ Y ≤ 4) ∧ (1 ≤ Z ∧ Z ≤ 4)) (hp : p < 3) : Fn Try.prog 92 [.agg #[.int .i64 X, .int .i64 Y, .int .i64 Z], .int .i64 (p : Nat)] H n (.int .i64 ((linesOf X Y Z p : Nat) : Int)) (H) (n) := by
  refine Fn.intro' Try.func92 rfl (by kernel_rfl) Try.ntmps92 (by simp) (by omega) fun hfresh => ?_
  have hsb := ciS hX p
  have hd := lines_div hX hp
  have hl := lines_bd hX p
  show W _ _ _ ⟨[(0, _), (1, _)], _, _⟩ _
  refine W.sR [1, 2] fun K hK => ?_
  refine st rfl rfl (e_boxA rfl) ?_
  refine st rfl rfl (e_assign rfl) ?_
  refine stEnd (hK _ [(1, _), (2, _)] _ _ rfl ?_)
  clear hK K
  refine W.sD [4] [0, 1, 0, 4, 12, 31, 63] (by kernel_rfl) (by kernel_rfl) fun K hK => ?_
  refine dL rfl rfl rfl (by omega) (accB_ok rfl) (e_loadA t75 rfl rfl (by repeat (first | exact look_same | assumption | refine look_ne (by omega) ?_)) rfl rfl) ?_
  refine dC rfl rfl rfl rfl (impl_box_size_s _ _ _ _ _ (by omega)) (accB_ok rfl) ?_
  refine dP rfl rfl rfl (e_move rfl) ?_
  refine dP rfl rfl rfl (e_idxAK _ t75 t3 rfl rfl rfl (by first | omega | decide)) ?_
  refine dL rfl rfl rfl (by omega) (by repeat (first | exact trivial | refine And.intro (Or.inl rfl) ?_ | refine And.intro (Or.inr trivial) ?_ | refine And.intro (Or.inr (And.intro (Or.inl (by omega)) (by first | (simp; done) | (simp; omega)))) ?_ | refine And.intro (Or.inr (And.intro (Or.inr (by omega)) (by first | (simp; done) | (simp; omega)))) ?_ | refine And.intro (Or.inr (by simp [compat]; try omega)) ?_)) (e_load1 t3 rfl rfl (by repeat (first | exact look_same | assumption | refine look_ne (by omega) ?_)) (by first | rfl | exact tri_getL (by omega))) ?_
  refine dP rfl rfl rfl (e_quo rfl rfl (by omega) (inB _ (by rw [hd]; omega))) ?_
  refine dP rfl rfl rfl (e_assign rfl) ?_
  refine dEnd (hK _ [(4, _)] _ _ rfl ?_)
  clear hK K
  refine W.ret ?_
  refine ⟨.inr rfl, Ends.v0 (by repeat (first | exact self_old | assumption | refine set_old ?_ (by omega))) hfresh (by first | rfl | (simp [ltT, ltA, ltC, ltV]; try omega)) (res1 (resT rfl) rfl) ?_⟩
  rw [hd]
theorem impl_allWithin_s (b m : Nat) (ro : Bool) (zs : List Int) (lo hi : Int) (H : Heap) (n : Nat) (hb : H b = some (.cells ro (ints zs))) (hl : zs.length = m) (hlen : zs.length ≤ 1048576) : Fn Try.prog 128 [.slice (some ⟨b, 0, none⟩) m 1, .int .i64 lo, .int .i64 hi] H n (.bool (zs.all fun z => within z lo hi)) (H) (n) := by
  refine Fn.intro' Try.func128 rfl (by kernel_rfl) Try.ntmps128 (by simp) (by omega) fun hfresh => ?_
  have lt_hb := lt_fresh hfresh hb
  subst hl
  show W _ _ _ ⟨[(0, _), (1, _), (2, _)], _, _⟩ _
  refine W.sR [0, 1, 2] fun K hK => ?_
  refine st rfl rfl (e_assign rfl) ?_
  refine stEnd (hK _ [(0, _), (1, _), (2, _)] _ _ rfl ?_)
  clear hK K
  refine W.seq ?_
  refine W.sR [1, 2, 9, 10, 11] fun K hK => ?_
  refine st rfl rfl (e_move rfl) ?_
  refine st rfl rfl (e_len t32 rfl) ?_
  refine st rfl rfl (e_move rfl) ?_
  refine stEnd (hK _ [(1, _), (2, _), (9, _), (10, _), (11, _)] _ _ rfl ?_)
  clear hK K
  refine W.block ?_
  refine W.ord [11, 1, 2, 9, 10] (ts' := [(11, _)] ++ [(1, _), (2, _), (9, _), (10, _)]) rfl ?_
  refine W.loopC [(11, _)] [] (fun κ V G μ => ∃ i : Nat, V = [(11, .int .i64 (i : Nat))] ∧ κ = zs.length - i ∧ (i ≤ zs.length) ∧ (∀ j, j < i → within (at1 zs j) lo hi = true)) _ ⟨0, rfl, rfl, (by first | omega | assumption | rfl | simp_all), (fun j hj => absurd hj (by omega))⟩ fun κ V G μ hinv hμ hkeep hfr => ?_
  obtain ⟨i, rfl, rfl, hi2, hq⟩ := hinv
  refine W.sR [1, 2, 9, 10, 11, 12] fun K hK => ?_
  refine st rfl rfl (e_lss rfl rfl) ?_
  refine stB (fun hb1 => ?_) (fun hb1 => ?_)
  ·
    try simp only [decide_eq_true_eq, decide_eq_false_iff_not, Bool.not_eq_true', Bool.not_eq_false', Bool.not_eq_true, Bool.not_eq_false] at hb1
    refine stEnd (hK _ [(1, _), (2, _), (9, _), (10, _), (11, _), (12, _)] _ _ rfl ?_)
    clear hK K
    refine W.seq ?_
    refine W.condT rfl ?_
    refine W.skip ?_
    refine thenN ?_
    refine W.seq ?_
    refine W.block ?_
    refine W.sR [1, 2, 8, 9, 10, 11] fun K hK => ?_
    refine st rfl rfl (e_idxSK _ t32 t3 rfl rfl rfl (by first | omega | decide)) ?_
    refine st rfl rfl (e_load1 t3 rfl rfl (by repeat (first | exact look_same | assumption | refine look_ne (by omega) ?_ | refine look_keep (by assumption) (by omega) (by simp; try omega) ?_)) (ints_at (by omega))) ?_
    refine st rfl rfl (e_assign rfl) ?_
    refine stEnd (hK _ [(1, _), (2, _), (8, _), (9, _), (10, _), (11, _)] _ _ rfl ?_)
    clear hK K
    refine W.sR [1, 2, 9, 10, 11, 19] fun K hK => ?_
    refine st rfl rfl (e_move rfl) ?_
    refine st rfl rfl (e_move rfl) ?_
    refine st rfl rfl (e_move rfl) ?_
    refine stC rfl rfl rfl (impl_within_s _ _ _ _ _ ) ?_
    refine st rfl rfl (e_not rfl) ?_
    refine stB (fun hw => ?_) (fun hw => ?_)
    ·
      try simp only [decide_eq_true_eq, decide_eq_false_iff_not, Bool.not_eq_true', Bool.not_eq_false', Bool.not_eq_true, Bool.not_eq_false] at hw
      refine stEnd (hK _ [(1, _), (2, _), (9, _), (10, _), (11, _), (19, _)] _ _ rfl ?_)
      clear hK K
      refine W.condT rfl ?_
      refine W.sR [6] fun K hK => ?_
      refine st rfl rfl (e_assign rfl) ?_
      refine stEnd (hK _ [(6, _)] _ _ rfl ?_)
      clear hK K
      refine W.ret ?_
      refine blockR ?_
      refine thenR ?_
      refine thenR ?_
      refine blockR ?_
      refine thenR ?_
      refine ⟨.inr rfl, Ends.v0 (by repeat (first | exact self_old | assumption | refine set_old ?_ (by omega) | refine keep_old (by assumption) ?_ (by omega) (by simp; try omega))) hfresh (by first | rfl | (simp [ltT, ltA, ltC, ltV]; try omega)) (res1 (resT rfl) rfl) ?_⟩
      first | rw [all1_yes (fun j hj => hq j (by omega))] | rw [all1_no (i := i) (by omega) hw]
    ·
      try simp only [decide_eq_true_eq, decide_eq_false_iff_not, Bool.not_eq_true', Bool.not_eq_false', Bool.not_eq_true, Bool.not_eq_false] at hw
      refine stEnd (hK _ [(1, _), (2, _), (9, _), (10, _), (11, _), (19, _)] _ _ rfl ?_)
      clear hK K
      refine W.condF rfl ?_
      refine W.skip ?_
      refine blockN ?_
      refine thenN ?_
      refine W.rR [11, 1, 2, 9, 10] fun K hK => ?_
      refine st rfl rfl (e_add rfl rfl (inB _ (by omega))) ?_
      refine st rfl rfl (e_move rfl) ?_
      refine stEnd (hK _ [(11, _), (1, _), (2, _), (9, _), (10, _)] _ _ rfl ?_)
      clear hK K
      exact roundN (V' := [(11, _)]) [11, 1, 2, 9, 10] rfl (by omega) (by repeat (first | exact Keeps.refl _ _ _ | assumption | refine Keeps.trans ?_ (by assumption) (by omega) (by simp; try omega) | refine Keeps.set ?_ (by first | exact Or.inl (by omega) | (simp; done) | (simp; omega)) | refine Keeps.del ?_ (by first | exact Or.inl (by omega) | (simp; done) | (simp; omega)))) _ (by omega) ⟨i + 1, rfl, rfl, (by first | omega | assumption | simp_all), (all_succ hq (by assumption))⟩
  ·
    try simp only [decide_eq_true_eq, decide_eq_false_iff_not, Bool.not_eq_true', Bool.not_eq_false', Bool.not_eq_true, Bool.not_eq_false] at hb1
    refine stEnd (hK _ [(1, _), (2, _), (9, _), (10, _), (11, _), (12, _)] _ _ rfl ?_)
    clear hK K
    refine W.seq ?_
    refine W.condF rfl ?_
    refine W.exit ?_
    refine thenE ?_
    refine thenE ?_
    refine blockX ?_
    refine thenN ?_
    refine W.sR [6] fun K hK => ?_
    refine st rfl rfl (e_assign rfl) ?_
    refine stEnd (hK _ [(6, _)] _ _ rfl ?_)
    clear hK K
    refine W.ret ?_
    refine ⟨.inr rfl, Ends.v0 (by repeat (first | exact self_old | assumption | refine set_old ?_ (by omega) | refine keep_old (by assumption) ?_ (by omega) (by simp; try omega))) hfresh (by first | rfl | (simp [ltT, ltA, ltC, ltV]; try omega)) (res1 (resT rfl) rfl) ?_⟩
    first | rw [all1_yes (fun j hj => hq j (by omega))] | rw [all1_no (i := i) (by omega) hw]
theorem impl_IsShadow_s (X Y Z : Int) (b0 b1 b2 : Nat) (r0 r1 r2 : Bool) (x0 x1 x2 : List Int) (H : Heap) (n : Nat) (hb0 : H b0 = some (.cells r0 (ints x0))) (hb1 : H b1 = some (.cells r1 (ints x1))) (hb2 : H b2 = some (.cells r2 (ints x2))) (hl0 : x0.length ≤ 1048576) (hl1 : x1.length ≤ 1048576) (hl2 : x2.length ≤ 1048576) : Fn Try.prog 72 [.agg #[.int .i64 X, .int .i64 Y, .int .i64 Z, .slice (some ⟨b0, 0, none⟩) x0.length 1, .slice (some ⟨b1, 0, none⟩) x1.length 1, .slice (some ⟨b2, 0, none⟩) x2.length 1]] H n (.bool (shadB X Y Z x0 x1 x2)) (H) (n) := by
  refine Fn.intro' Try.func72 rfl (by kernel_rfl) Try.ntmps72 (by simp) (by omega) fun hfresh => ?_
  have lt_hb0 := lt_fresh hfresh hb0
  have lt_hb1 := lt_fresh hfresh hb1
  have lt_hb2 := lt_fresh hfresh hb2
  have hpl := fun d => pick_le (d := d) hl2 hl1 hl0
  have hpn := fun d => pick_len (x0 := x0) (x1 := x1) (x2 := x2) d
  show W _ _ _ ⟨[(0, _)], _, _⟩ _
  refine W.sR [1] fun K hK => ?_
  refine st rfl rfl (e_boxA rfl) ?_
  refine st rfl rfl (e_assign rfl) ?_
  refine stEnd (hK _ [(1, _)] _ _ rfl ?_)
  clear hK K
  refine W.seq ?_
  refine W.sR [1, 8] fun K hK => ?_
  refine st rfl rfl (e_loadA t38 rfl rfl (by repeat (first | exact look_same | assumption | refine look_ne (by omega) ?_ | refine look_keep (by assumption) (by omega) (by simp; try omega) ?_)) rfl rfl) ?_
  refine stC rfl rfl rfl (impl_Shadow_box_s _ _ _ _ _ _ _ _ ) ?_
  refine stC rfl rfl rfl (impl_box_valid_s _ _ _ _ _ ) ?_
  refine st rfl rfl (e_not rfl) ?_
  refine stB (fun hs => ?_) (fun hs => ?_)
  ·
    try simp only [decide_eq_true_eq, decide_eq_false_iff_not, Bool.not_eq_true', Bool.not_eq_false', Bool.not_eq_true, Bool.not_eq_false] at hs
    refine stEnd (hK _ [(1, _), (8, _)] _ _ rfl ?_)
    clear hK K
    refine W.condT rfl ?_
    refine W.sR [2] fun K hK => ?_
    refine st rfl rfl (e_assign rfl) ?_
    refine stEnd (hK _ [(2, _)] _ _ rfl ?_)
    clear hK K
    refine W.ret ?_
    refine thenR ?_
    refine ⟨.inr rfl, Ends.v0 (by repeat (first | exact self_old | assumption | refine set_old ?_ (by omega) | refine keep_old (by assumption) ?_ (by omega) (by simp; try omega))) hfresh (by first | rfl | (simp [ltT, ltA, ltC, ltV]; try omega)) (res1 (resT rfl) rfl) ?_⟩
    rw [shadB_no0 hs]
  ·
    try simp only [decide_eq_true_eq, decide_eq_false_iff_not, Bool.not_eq_true', Bool.not_eq_false', Bool.not_eq_true, Bool.not_eq_false] at hs
    have hX := sides_bd hs
    refine stEnd (hK _ [(1, _), (8, _)] _ _ rfl ?_)
    clear hK K
    refine W.condF rfl ?_
    refine W.skip ?_
    refine thenN ?_
    refine W.seq ?_
    refine W.sR [1, 9] fun K hK => ?_
    refine st rfl rfl (e_move rfl) ?_
    refine stEnd (hK _ [(1, _), (9, _)] _ _ rfl ?_)
    clear hK K
    refine W.block ?_
    refine W.ord [9, 1] (ts' := [(9, _)] ++ [(1, _)]) rfl ?_
    refine W.loopC [(9, _)] [] (fun κ V G μ => ∃ d : Nat, V = [(9, .int .i64 (d : Nat))] ∧ κ = 3 - d ∧ (d ≤ 3) ∧ (∀ k, k < d → oneB (pick3 x2 x1 x0 k) (linesOf X Y Z k) = true)) _ ⟨0, rfl, rfl, (by first | omega | assumption | rfl | simp_all), (fun j hj => absurd hj (by omega))⟩ fun κ V G μ hinv hμ hkeep hfr => ?_
    obtain ⟨d, rfl, rfl, hd, hq⟩ := hinv
    refine W.sR [1, 9, 10] fun K hK => ?_
    refine st rfl rfl (e_lss rfl rfl) ?_
    refine stB (fun hb2 => ?_) (fun hb2 => ?_)
    ·
      try simp only [decide_eq_true_eq, decide_eq_false_iff_not, Bool.not_eq_true', Bool.not_eq_false', Bool.not_eq_true, Bool.not_eq_false] at hb2
      refine stEnd (hK _ [(1, _), (9, _), (10, _)] _ _ rfl ?_)
      clear hK K
      refine W.seq ?_
      refine W.condT rfl ?_
      refine W.skip ?_
      refine thenN ?_
      refine W.seq ?_
      refine W.block ?_
      refine W.sR [1, 3, 9] fun K hK => ?_
      refine st rfl rfl (e_move rfl) ?_
      refine st rfl rfl (e_assign rfl) ?_
      refine stEnd (hK _ [(1, _), (3, _), (9, _)] _ _ rfl ?_)
      clear hK K
      have hdl := lines_bd hX d
      have hpd := hpl d
      have hpe := hpn d
      refine W.sR [1, 3, 4, 9] fun K hK => ?_
      refine st rfl rfl (e_loadA t38 rfl rfl (by repeat (first | exact look_same | assumption | refine look_ne (by omega) ?_ | refine look_keep (by assumption) (by omega) (by simp; try omega) ?_)) rfl rfl) ?_
      refine st rfl rfl (e_move rfl) ?_
      refine stC rfl rfl rfl (impl_Shadow_list_s _ _ _ _ _ _ _ _ _ _ _ _ (by omega) (by omega)) ?_
      refine st rfl rfl (e_assign rfl) ?_
      refine stEnd (hK _ [(1, _), (3, _), (4, _), (9, _)] _ _ rfl ?_)
      clear hK K
      refine W.sR [1, 9, 26] fun K hK => ?_
      refine st rfl rfl (e_move rfl) ?_
      refine st rfl rfl (e_len t32 rfl) ?_
      refine st rfl rfl (e_loadA t38 rfl rfl (by repeat (first | exact look_same | assumption | refine look_ne (by omega) ?_ | refine look_keep (by assumption) (by omega) (by simp; try omega) ?_)) rfl rfl) ?_
      refine stC rfl rfl rfl (impl_Shadow_box_s _ _ _ _ _ _ _ _ ) ?_
      refine st rfl rfl (e_move rfl) ?_
      refine stC rfl rfl rfl (impl_box_lines_s _ _ _ _ _ _ (by assumption) (by first | assumption | omega)) ?_
      refine st rfl rfl (e_neq rfl rfl) ?_
      refine st rfl rfl (e_move rfl) ?_
      refine stB (fun hn => ?_) (fun hn => ?_)
      ·
        try simp only [decide_eq_true_eq, decide_eq_false_iff_not, Bool.not_eq_true', Bool.not_eq_false', Bool.not_eq_true, Bool.not_eq_false] at hn
        refine stS rfl rfl ?_
        refine stS rfl rfl ?_
        refine stS rfl rfl ?_
        refine st rfl rfl (e_pickT rfl rfl) ?_
        refine stEnd (hK _ [(1, _), (9, _), (26, _)] _ _ rfl ?_)
        clear hK K
        refine W.condT rfl ?_
        refine W.sR [2] fun K hK => ?_
        refine st rfl rfl (e_assign rfl) ?_
        refine stEnd (hK _ [(2, _)] _ _ rfl ?_)
        clear hK K
        refine W.ret ?_
        refine blockR ?_
        refine thenR ?_
        refine thenR ?_
        refine blockR ?_
        refine thenR ?_
        refine ⟨.inr rfl, Ends.v0 (by repeat (first | exact self_old | assumption | refine set_old ?_ (by omega) | refine keep_old (by assumption) ?_ (by omega) (by simp; try omega))) hfresh (by first | rfl | (simp [ltT, ltA, ltC, ltV]; try omega)) (res1 (resT rfl) rfl) ?_⟩
        rw [shadB_no (k := d) (by omega) (oneB_no1 (by omega))]
      ·
        try simp only [decide_eq_true_eq, decide_eq_false_iff_not, Bool.not_eq_true', Bool.not_eq_false', Bool.not_eq_true, Bool.not_eq_false] at hn
        refine st rfl rfl (e_move rfl) ?_
        refine stC rfl rfl rfl (impl_allWithin_s _ _ _ (pick3 x2 x1 x0 d) _ _ _ _ (pick_look (by repeat (first | exact look_same | assumption | refine look_ne (by omega) ?_ | refine look_keep (by assumption) (by omega) (by simp; try omega) ?_ | refine look_hide (by omega) (by first | exact List.not_mem_nil | (simp [hidden, Nat.testBit]; done) | (simp [hidden, Nat.testBit]; omega)) ?_)) (by repeat (first | exact look_same | assumption | refine look_ne (by omega) ?_ | refine look_keep (by assumption) (by omega) (by simp; try omega) ?_ | refine look_hide (by omega) (by first | exact List.not_mem_nil | (simp [hidden, Nat.testBit]; done) | (simp [hidden, Nat.testBit]; omega)) ?_)) (by repeat (first | exact look_same | assumption | refine look_ne (by omega) ?_ | refine look_keep (by assumption) (by omega) (by simp; try omega) ?_ | refine look_hide (by omega) (by first | exact List.not_mem_nil | (simp [hidden, Nat.testBit]; done) | (simp [hidden, Nat.testBit]; omega)) ?_)) (by omega)) (hpn d) (by have := hpl d; have := hpn d; omega)) ?_
        refine st rfl rfl (e_not rfl) ?_
        refine st rfl rfl (e_pickF rfl rfl) ?_
        refine stB (fun hw => ?_) (fun hw => ?_)
        ·
          try simp only [decide_eq_true_eq, decide_eq_false_iff_not, Bool.not_eq_true', Bool.not_eq_false', Bool.not_eq_true, Bool.not_eq_false] at hw
          refine stEnd (hK _ [(1, _), (9, _), (26, _)] _ _ rfl ?_)
          clear hK K
          refine W.condT rfl ?_
          refine W.sR [2] fun K hK => ?_
          refine st rfl rfl (e_assign rfl) ?_
          refine stEnd (hK _ [(2, _)] _ _ rfl ?_)
          clear hK K
          refine W.ret ?_
          refine blockR ?_
          refine thenR ?_
          refine thenR ?_
          refine blockR ?_
          refine thenR ?_
          refine ⟨.inr rfl, Ends.v0 (by repeat (first | exact self_old | assumption | refine set_old ?_ (by omega) | refine keep_old (by assumption) ?_ (by omega) (by simp; try omega))) hfresh (by first | rfl | (simp [ltT, ltA, ltC, ltV]; try omega)) (res1 (resT rfl) rfl) ?_⟩
          rw [shadB_no (k := d) (by omega) (oneB_no2 hw)]
        ·
          try simp only [decide_eq_true_eq, decide_eq_false_iff_not, Bool.not_eq_true', Bool.not_eq_false', Bool.not_eq_true, Bool.not_eq_false] at hw
          refine stEnd (hK _ [(1, _), (9, _), (26, _)] _ _ rfl ?_)
          clear hK K
          refine W.condF rfl ?_
          refine W.skip ?_
          refine blockN ?_
          refine thenN ?_
          refine W.rR [9, 1] fun K hK => ?_
          refine st rfl rfl (e_add rfl rfl (inB _ (by omega))) ?_
          refine st rfl rfl (e_move rfl) ?_
          refine stEnd (hK _ [(9, _), (1, _)] _ _ rfl ?_)
          clear hK K
          exact roundN (V' := [(9, _)]) [9, 1] rfl (by omega) (by repeat (first | exact Keeps.refl _ _ _ | assumption | refine Keeps.trans ?_ (by assumption) (by omega) (by simp; try omega) | refine Keeps.set ?_ (by first | exact Or.inl (by omega) | (simp; done) | (simp; omega)) | refine Keeps.del ?_ (by first | exact Or.inl (by omega) | (simp; done) | (simp; omega)))) _ (by omega) ⟨d + 1, rfl, rfl, (by first | omega | assumption | simp_all), (all_succ hq (oneB_yes (by omega) hw))⟩
    ·
      try simp only [decide_eq_true_eq, decide_eq_false_iff_not, Bool.not_eq_true', Bool.not_eq_false', Bool.not_eq_true, Bool.not_eq_false] at hb2
      refine stEnd (hK _ [(1, _), (9, _), (10, _)] _ _ rfl ?_)
      clear hK K
      refine W.seq ?_
      refine W.condF rfl ?_
      refine W.exit ?_
      refine thenE ?_
      refine thenE ?_
      refine blockX ?_
      refine thenN ?_
      refine W.sR [2] fun K hK => ?_
      refine st rfl rfl (e_assign rfl) ?_
      refine stEnd (hK _ [(2, _)] _ _ rfl ?_)
      clear hK K
      refine W.ret ?_
      refine ⟨.inr rfl, Ends.v0 (by repeat (first | exact self_old | assumption | refine set_old ?_ (by omega) | refine keep_old (by assumption) ?_ (by omega) (by simp; try omega))) hfresh (by first | rfl | (simp [ltT, ltA, ltC, ltV]; try omega)) (res1 (resT rfl) rfl) ?_⟩
      rw [shadB_yes hs (fun k hk => hq k (by omega))]
theorem impl_box_cell_s (X Y Z : Int) (i : Nat) (H : Heap) (n : Nat) (hX : (1 ≤ X ∧ X ≤ 4) ∧ (1 ≤ Y ∧ Y ≤ 4) ∧ (1 ≤ Z ∧ Z ≤ 4)) (hi : i < vol X Y Z) : Fn Try.prog 133 [.agg #[.int .i64 X, .int .i64 Y, .int .i64 Z], .int .i64 (i : Nat)] H n (.agg #[.int .i64 (cellAt Y Z i).1, .int .i64 (cellAt Y Z i).2.1, .int .i64 (cellAt Y Z i).2.2]) (H) (n) := by
  refine Fn.intro' Try.func133 rfl (by kernel_rfl) Try.ntmps133 (by simp) (by omega) fun hfresh => ?_
  have hv := vol_le hX
  have hq := quo_bd (i := (i : Int)) (k := Z) (by omega) hX.2.2
  have hq2 := quo_bd (i := (i : Int).tdiv Z) (k := Y) hq.1 hX.2.1
  show W _ _ _ ⟨[(0, _), (1, _)], _, _⟩ _
  refine W.sR [1, 2, 4] fun K hK => ?_
  refine st rfl rfl (e_boxA rfl) ?_
  refine st rfl rfl (e_alloc t72 rfl) ?_
  refine stEnd (hK _ [(1, _), (2, _), (4, _)] _ _ rfl ?_)
  clear hK K
  refine W.sD [4] [0, 0, 2, 7, 0, 16, 63, 0, 0, 256, 896, 0, 2048, 8064, 0, 0, 32768, 114688, 262143, 524287] (by kernel_rfl) (by kernel_rfl) fun K hK => ?_
  refine dP rfl rfl rfl (e_move rfl) ?_
  refine dP rfl rfl rfl (e_idxAK (2) t75 t3 rfl rfl (by first | rfl | omega) (by first | omega | decide)) ?_
  refine dL rfl rfl rfl (by omega) (accB_ok rfl) (e_load1 t3 rfl rfl (by repeat (first | exact look_same | assumption | refine look_ne (by omega) ?_)) (by first | rfl | exact tri_getL (by omega))) ?_
  refine dP rfl rfl rfl (e_quo rfl rfl (by omega) (inB _ (by omega))) ?_
  refine dP rfl rfl rfl (e_idxAK (1) t75 t3 rfl rfl (by first | rfl | omega) (by first | omega | decide)) ?_
  refine dL rfl rfl rfl (by omega) (accB_ok rfl) (e_load1 t3 rfl rfl (by repeat (first | exact look_same | assumption | refine look_ne (by omega) ?_)) (by first | rfl | exact tri_getL (by omega))) ?_
  refine dP rfl rfl rfl (e_quo rfl rfl (by omega) (inB _ (by omega))) ?_
  refine dP rfl rfl rfl (e_move rfl) ?_
  refine dP rfl rfl rfl (e_idxAK (2) t75 t3 rfl rfl (by first | rfl | omega) (by first | omega | decide)) ?_
  refine dL rfl rfl rfl (by omega) (accB_ok rfl) (e_load1 t3 rfl rfl (by repeat (first | exact look_same | assumption | refine look_ne (by omega) ?_)) (by first | rfl | exact tri_getL (by omega))) ?_
  refine dP rfl rfl rfl (e_quo rfl rfl (by omega) (inB _ (by omega))) ?_
  refine dP rfl rfl rfl (e_idxAK (1) t75 t3 rfl rfl (by first | rfl | omega) (by first | omega | decide)) ?_
  refine dL rfl rfl rfl (by omega) (accB_ok rfl) (e_load1 t3 rfl rfl (by repeat (first | exact look_same | assumption | refine look_ne (by omega) ?_)) (by first | rfl | exact tri_getL (by omega))) ?_
  refine dP rfl rfl rfl (e_rem rfl rfl (by omega)) ?_
  refine dP rfl rfl rfl (e_move rfl) ?_
  refine dP rfl rfl rfl (e_idxAK (2) t75 t3 rfl rfl (by first | rfl | omega) (by first | omega | decide)) ?_
  refine dL rfl rfl rfl (by omega) (accB_ok rfl) (e_load1 t3 rfl rfl (by repeat (first | exact look_same | assumption | refine look_ne (by omega) ?_)) (by first | rfl | exact tri_getL (by omega))) ?_
  refine dP rfl rfl rfl (e_rem rfl rfl (by omega)) ?_
  refine dP rfl rfl rfl (e_build rfl rfl (bld72_0_1_2 _ _ _ rfl rfl rfl)) ?_
  refine dSt rfl rfl (e_storeA t72 rfl rfl (by repeat (first | exact look_same | assumption | refine look_ne (by omega) ?_ | refine look_hide (by omega) (by first | exact List.not_mem_nil | (simp [hidden, Nat.testBit]; done) | (simp [hidden, Nat.testBit]; omega)) ?_)) rfl rfl rfl (by decide)) (by omega) (by first | exact List.not_mem_nil | (simp [hidden, Nat.testBit]; done) | (simp [hidden, Nat.testBit]; omega)) (accB_ok rfl) ?_
  refine dEnd (hK _ [(4, _)] _ _ rfl ?_)
  clear hK K
  refine W.ret ?_
  refine ⟨.inr rfl, Ends.v0 (by repeat (first | exact self_old | assumption | refine set_old ?_ (by omega))) hfresh (by first | rfl | (simp [ltT, ltA, ltC, ltV]; try omega)) (res1 (resC t72 rfl rfl (by repeat (first | exact look_same | assumption | refine look_ne (by omega) ?_)) rfl rfl) rfl) ?_⟩
  rw [cellAt_t (by omega) (by omega)]
theorem impl_box_those_s (X Y Z : Int) (fid : Nat) (caps : List Value) (f : C → Bool) (H : Heap) (n : Nat) (hX : (1 ≤ X ∧ X ≤ 4) ∧ (1 ≤ Y ∧ Y ≤ 4) ∧ (1 ≤ Z ∧ Z ≤ 4)) (hf : ∀ (G : Heap) (m : Nat) (i : Nat), i < vol X Y Z → n ≤ m → (∀ x k, x < n → H x = some k → G x = some k) → Fn Try.prog fid (.agg #[.int .i64 (cellAt Y Z i).1, .int .i64 (cellAt Y Z i).2.1, .int .i64 (cellAt Y Z i).2.2] :: caps) G m (.bool (f (cellAt Y Z i))) G m) : Fn Try.prog 139 [.agg #[.int .i64 X, .int .i64 Y, .int .i64 Z], .func (.func fid) #[] (List.toArray caps)] H n (U (thoseTo Y Z f (vol X Y Z))) (H) (n) := by
  refine Fn.intro' Try.func139 rfl (by kernel_rfl) Try.ntmps139 (by simp) (by omega) fun hfresh => ?_
  have hv := vol_le hX
  show W _ _ _ ⟨[(0, _), (1, _)], _, _⟩ _
  refine W.sR [1, 2] fun K hK => ?_
  refine st rfl rfl (e_boxA rfl) ?_
  refine st rfl rfl (e_assign rfl) ?_
  refine stEnd (hK _ [(1, _), (2, _)] _ _ rfl ?_)
  clear hK K
  refine W.sR [1, 2, 5] fun K hK => ?_
  refine st rfl rfl (e_assign rfl) ?_
  refine stEnd (hK _ [(1, _), (2, _), (5, _)] _ _ rfl ?_)
  clear hK K
  refine W.seq ?_
  refine W.sR [1, 2, 5, 8, 9] fun K hK => ?_
  refine st rfl rfl (e_loadA t75 rfl rfl (by repeat (first | exact look_same | assumption | refine look_ne (by omega) ?_ | refine look_keep (by assumption) (by omega) (by simp; try omega) ?_)) rfl rfl) ?_
  refine stC rfl rfl rfl (impl_box_size_s _ _ _ _ _ (by omega)) ?_
  refine st rfl rfl (e_move rfl) ?_
  refine stEnd (hK _ [(1, _), (2, _), (5, _), (8, _), (9, _)] _ _ rfl ?_)
  clear hK K
  refine W.block ?_
  refine W.ord [5, 9, 1, 2, 8] (ts' := [(5, _), (9, _)] ++ [(1, _), (2, _), (8, _)]) rfl ?_
  refine W.loopC [(5, _), (9, _)] [] (fun κ V G μ => ∃ i : Nat, V = [(5, U (thoseTo Y Z f i)), (9, .int .i64 (i : Nat))] ∧ κ = vol X Y Z - i ∧ (i ≤ vol X Y Z)) _ ⟨0, rfl, rfl, (by first | omega | assumption | rfl | simp_all)⟩ fun κ V G μ hinv hμ hkeep hfr => ?_
  obtain ⟨i, rfl, rfl, hi⟩ := hinv
  refine W.sR [1, 2, 5, 8, 9, 10] fun K hK => ?_
  refine st rfl rfl (e_lss rfl rfl) ?_
  refine stB (fun hb1 => ?_) (fun hb1 => ?_)
  ·
    try simp only [decide_eq_true_eq, decide_eq_false_iff_not, Bool.not_eq_true', Bool.not_eq_false', Bool.not_eq_true, Bool.not_eq_false] at hb1
    refine stEnd (hK _ [(1, _), (2, _), (5, _), (8, _), (9, _), (10, _)] _ _ rfl ?_)
    clear hK K
    refine W.seq ?_
    refine W.condT rfl ?_
    refine W.skip ?_
    refine thenN ?_
    refine W.seq ?_
    refine W.block ?_
    refine W.sR [1, 2, 5, 6, 8, 9] fun K hK => ?_
    refine st rfl rfl (e_move rfl) ?_
    refine st rfl rfl (e_assign rfl) ?_
    refine stEnd (hK _ [(1, _), (2, _), (5, _), (6, _), (8, _), (9, _)] _ _ rfl ?_)
    clear hK K
    refine W.sR [1, 2, 5, 6, 8, 9, 16] fun K hK => ?_
    refine st rfl rfl (e_move rfl) ?_
    refine st rfl rfl (e_loadA t75 rfl rfl (by repeat (first | exact look_same | assumption | refine look_ne (by omega) ?_ | refine look_keep (by assumption) (by omega) (by simp; try omega) ?_)) rfl rfl) ?_
    refine st rfl rfl (e_move rfl) ?_
    refine stC rfl rfl rfl (impl_box_cell_s _ _ _ _ _ _ (by assumption) (by omega)) ?_
    refine stC rfl rfl rfl (hf _ _ i (by omega) (by omega) (by repeat (first | exact self_old | assumption | refine set_old ?_ (by omega) | refine keep_old (by assumption) ?_ (by omega) (by simp; try omega)))) ?_
    refine stB (fun hb => ?_) (fun hb => ?_)
    ·
      try simp only [decide_eq_true_eq, decide_eq_false_iff_not, Bool.not_eq_true', Bool.not_eq_false', Bool.not_eq_true, Bool.not_eq_false] at hb
      refine stEnd (hK _ [(1, _), (2, _), (5, _), (6, _), (8, _), (9, _), (16, _)] _ _ rfl ?_)
      clear hK K
      refine W.condT rfl ?_
      refine W.rR [1, 2, 5, 8, 9] fun K hK => ?_
      refine st rfl rfl (e_move rfl) ?_
      refine st rfl rfl (e_move rfl) ?_
      refine st rfl rfl (e_shlU (_) (ev_cU (k := 1) (by decide) rfl) rfl rfl) ?_
      refine st rfl rfl (e_orU rfl rfl) ?_
      refine st rfl rfl (e_assign rfl) ?_
      refine stEnd (hK _ [(1, _), (2, _), (5, _), (8, _), (9, _)] _ _ rfl ?_)
      clear hK K
      refine blockN ?_
      refine thenN ?_
      refine W.rR [5, 9, 1, 2, 8] fun K hK => ?_
      refine st rfl rfl (e_add rfl rfl (inB _ (by omega))) ?_
      refine st rfl rfl (e_move rfl) ?_
      refine stEnd (hK _ [(5, _), (9, _), (1, _), (2, _), (8, _)] _ _ rfl ?_)
      clear hK K
      exact roundN (V' := [(5, _), (9, _)]) [5, 9, 1, 2, 8] rfl (by omega) (by repeat (first | exact Keeps.refl _ _ _ | assumption | refine Keeps.trans ?_ (by assumption) (by omega) (by simp; try omega) | refine Keeps.set ?_ (by first | exact Or.inl (by omega) | (simp; done) | (simp; omega)) | refine Keeps.del ?_ (by first | exact Or.inl (by omega) | (simp; done) | (simp; omega)))) _ (by omega) ⟨i + 1, (by first | (rw [those_T hb]; rfl) | (rw [those_F hb]; rfl)), rfl, (by first | omega | assumption | simp_all)⟩
    ·
      try simp only [decide_eq_true_eq, decide_eq_false_iff_not, Bool.not_eq_true', Bool.not_eq_false', Bool.not_eq_true, Bool.not_eq_false] at hb
      refine stEnd (hK _ [(1, _), (2, _), (5, _), (6, _), (8, _), (9, _), (16, _)] _ _ rfl ?_)
      clear hK K
      refine W.condF rfl ?_
      refine W.skip ?_
      refine blockN ?_
      refine thenN ?_
      refine W.rR [5, 9, 1, 2, 8] fun K hK => ?_
      refine st rfl rfl (e_add rfl rfl (inB _ (by omega))) ?_
      refine st rfl rfl (e_move rfl) ?_
      refine stEnd (hK _ [(5, _), (9, _), (1, _), (2, _), (8, _)] _ _ rfl ?_)
      clear hK K
      exact roundN (V' := [(5, _), (9, _)]) [5, 9, 1, 2, 8] rfl (by omega) (by repeat (first | exact Keeps.refl _ _ _ | assumption | refine Keeps.trans ?_ (by assumption) (by omega) (by simp; try omega) | refine Keeps.set ?_ (by first | exact Or.inl (by omega) | (simp; done) | (simp; omega)) | refine Keeps.del ?_ (by first | exact Or.inl (by omega) | (simp; done) | (simp; omega)))) _ (by omega) ⟨i + 1, (by first | (rw [those_T hb]; rfl) | (rw [those_F hb]; rfl)), rfl, (by first | omega | assumption | simp_all)⟩
  ·
    try simp only [decide_eq_true_eq, decide_eq_false_iff_not, Bool.not_eq_true', Bool.not_eq_false', Bool.not_eq_true, Bool.not_eq_false] at hb1
    refine stEnd (hK _ [(1, _), (2, _), (5, _), (8, _), (9, _), (10, _)] _ _ rfl ?_)
    clear hK K
    refine W.seq ?_
    refine W.condF rfl ?_
    refine W.exit ?_
    refine thenE ?_
    refine thenE ?_
    refine blockX ?_
    refine thenN ?_
    refine W.sR [4] fun K hK => ?_
    refine st rfl rfl (e_move rfl) ?_
    refine st rfl rfl (e_assign rfl) ?_
    refine stEnd (hK _ [(4, _)] _ _ rfl ?_)
    clear hK K
    refine W.ret ?_
    refine ⟨.inr rfl, Ends.v0 (by repeat (first | exact self_old | assumption | refine set_old ?_ (by omega) | refine keep_old (by assumption) ?_ (by omega) (by simp; try omega))) hfresh (by first | rfl | (simp [ltT, ltA, ltC, ltV]; try omega)) (res1 (resT rfl) rfl) ?_⟩
    (obtain rfl : i = vol X Y Z := by omega); rfl
theorem impl_others_n_s (p : Nat) (H : Heap) (n : Nat) (hp : p < 3) : Fn Try.prog 111 [.int .i64 (p : Nat)] H n (.tuple #[.int .i64 (o1 p : Nat), .int .i64 (o2 p : Nat)]) (H) (n) := by
  refine Fn.intro' Try.func111 rfl (by kernel_rfl) Try.ntmps111 (by simp) (by omega) fun hfresh => ?_
  show W _ _ _ ⟨[(0, _)], _, _⟩ _
  refine W.sR [0] fun K hK => ?_
  refine st rfl rfl (e_assign rfl) ?_
  refine st rfl rfl (e_assign rfl) ?_
  refine stEnd (hK _ [(0, _)] _ _ rfl ?_)
  clear hK K
  refine W.seq ?_
  refine W.sR [4] fun K hK => ?_
  refine st rfl rfl (e_move rfl) ?_
  refine stEnd (hK _ [(4, _)] _ _ rfl ?_)
  clear hK K
  refine W.block ?_
  refine W.sR [4, 5] fun K hK => ?_
  refine st rfl rfl (e_eql rfl rfl) ?_
  refine st rfl rfl (e_assign rfl) ?_
  refine stB (fun hb1 => ?_) (fun hb1 => ?_)
  ·
    try simp only [decide_eq_true_eq, decide_eq_false_iff_not, Bool.not_eq_true', Bool.not_eq_false', Bool.not_eq_true, Bool.not_eq_false] at hb1
    refine stEnd (hK _ [(4, _), (5, _)] _ _ rfl ?_)
    clear hK K
    refine W.condT rfl ?_
    refine W.sR [2, 3] fun K hK => ?_
    refine st rfl rfl (e_assign rfl) ?_
    refine st rfl rfl (e_assign rfl) ?_
    refine stEnd (hK _ [(2, _), (3, _)] _ _ rfl ?_)
    clear hK K
    refine W.ret ?_
    refine blockR ?_
    refine thenR ?_
    refine ⟨.inr rfl, Ends.v0 (by repeat (first | exact self_old | assumption | refine set_old ?_ (by omega))) hfresh (by first | rfl | (simp [ltT, ltA, ltC, ltV]; try omega)) (res2 (resT rfl) (resT rfl) rfl rfl) ?_⟩
    (rw [← oth1_cast, ← oth2_cast]; simp [oth1, oth2, *] <;> omega)
  ·
    try simp only [decide_eq_true_eq, decide_eq_false_iff_not, Bool.not_eq_true', Bool.not_eq_false', Bool.not_eq_true, Bool.not_eq_false] at hb1
    refine stEnd (hK _ [(4, _), (5, _)] _ _ rfl ?_)
    clear hK K
    refine W.condF rfl ?_
    refine W.sR [7] fun K hK => ?_
    refine st rfl rfl (e_eql rfl rfl) ?_
    refine st rfl rfl (e_assign rfl) ?_
    refine stB (fun hb2 => ?_) (fun hb2 => ?_)
    ·
      try simp only [decide_eq_true_eq, decide_eq_false_iff_not, Bool.not_eq_true', Bool.not_eq_false', Bool.not_eq_true, Bool.not_eq_false] at hb2
      refine stEnd (hK _ [(7, _)] _ _ rfl ?_)
      clear hK K
      refine W.condT rfl ?_
      refine W.sR [2, 3] fun K hK => ?_
      refine st rfl rfl (e_assign rfl) ?_
      refine st rfl rfl (e_assign rfl) ?_
      refine stEnd (hK _ [(2, _), (3, _)] _ _ rfl ?_)
      clear hK K
      refine W.ret ?_
      refine blockR ?_
      refine thenR ?_
      refine ⟨.inr rfl, Ends.v0 (by repeat (first | exact self_old | assumption | refine set_old ?_ (by omega))) hfresh (by first | rfl | (simp [ltT, ltA, ltC, ltV]; try omega)) (res2 (resT rfl) (resT rfl) rfl rfl) ?_⟩
      (rw [← oth1_cast, ← oth2_cast]; simp [oth1, oth2, *] <;> omega)
    ·
      try simp only [decide_eq_true_eq, decide_eq_false_iff_not, Bool.not_eq_true', Bool.not_eq_false', Bool.not_eq_true, Bool.not_eq_false] at hb2
      refine stEnd (hK _ [(7, _)] _ _ rfl ?_)
      clear hK K
      refine W.condF rfl ?_
      refine W.skip ?_
      refine blockN ?_
      refine thenN ?_
      refine W.sR [2, 3] fun K hK => ?_
      refine st rfl rfl (e_assign rfl) ?_
      refine st rfl rfl (e_assign rfl) ?_
      refine stEnd (hK _ [(2, _), (3, _)] _ _ rfl ?_)
      clear hK K
      refine W.ret ?_
      refine ⟨.inr rfl, Ends.v0 (by repeat (first | exact self_old | assumption | refine set_old ?_ (by omega))) hfresh (by first | rfl | (simp [ltT, ltA, ltC, ltV]; try omega)) (res2 (resT rfl) (resT rfl) rfl rfl) ?_⟩
      (rw [← oth1_cast, ← oth2_cast]; simp [oth1, oth2, *] <;> omega)
theorem impl_box_line_s (X Y Z : Int) (c : C) (p : Nat) (H : Heap) (n : Nat) (hX : (1 ≤ X ∧ X ≤ 4) ∧ (1 ≤ Y ∧ Y ≤ 4) ∧ (1 ≤ Z ∧ Z ≤ 4)) (hc : (0 ≤ c.1 ∧ c.1 < X) ∧ (0 ≤ c.2.1 ∧ c.2.1 < Y) ∧ (0 ≤ c.2.2 ∧ c.2.2 < Z)) (hp : p < 3) : Fn Try.prog 95 [.agg #[.int .i64 X, .int .i64 Y, .int .i64 Z], .agg #[.int .i64 c.1, .int .i64 c.2.1, .int .i64 c.2.2], .int .i64 (p : Nat)] H n (.int .i64 ((lineIx X Y Z p c : Nat) : Int)) (H) (n) := by
  refine Fn.intro' Try.func95 rfl (by kernel_rfl) Try.ntmps95 (by simp) (by omega) fun hfresh => ?_
  have hm := mulC_bd (c := (c.1, c.2.1, c.2.2)) hX hc (o1 p) (o2 p)
  have hl := line_bd (c := (c.1, c.2.1, c.2.2)) hX p hc
  have hcb := ciC (c := (c.1, c.2.1, c.2.2)) hc (o2 p)
  have hsb := ciS hX (o2 p)
  have ho1 := o1_lt (p := p)
  have ho2 := o2_lt (p := p)
  show W _ _ _ ⟨[(0, _), (1, _), (2, _)], _, _⟩ _
  refine W.sR [2, 3, 4] fun K hK => ?_
  refine st rfl rfl (e_boxA rfl) ?_
  refine st rfl rfl (e_boxA rfl) ?_
  refine st rfl rfl (e_assign rfl) ?_
  refine stEnd (hK _ [(2, _), (3, _), (4, _)] _ _ rfl ?_)
  clear hK K
  refine W.sR [3, 4, 7, 8] fun K hK => ?_
  refine st rfl rfl (e_move rfl) ?_
  refine stC rfl rfl rfl (impl_others_n_s _ _ _ (by first | assumption | omega)) ?_
  refine st rfl rfl (e_move rfl) ?_
  refine st rfl rfl (e_extract rfl rfl) ?_
  refine st rfl rfl (e_extract rfl rfl) ?_
  refine st rfl rfl (e_assign rfl) ?_
  refine st rfl rfl (e_assign rfl) ?_
  refine stEnd (hK _ [(3, _), (4, _), (7, _), (8, _)] _ _ rfl ?_)
  clear hK K
  refine W.sD [6] [0, 1, 3, 0, 8, 24, 63, 0, 128, 384, 1023, 2047] (by kernel_rfl) (by kernel_rfl) fun K hK => ?_
  refine dP rfl rfl rfl (e_move rfl) ?_
  refine dP rfl rfl rfl (e_idxAK _ t72 t3 rfl rfl rfl (by first | omega | decide)) ?_
  refine dL rfl rfl rfl (by omega) (accB_ok rfl) (e_load1 t3 rfl rfl (by repeat (first | exact look_same | assumption | refine look_ne (by omega) ?_)) (by first | rfl | exact tri_getL (by omega))) ?_
  refine dP rfl rfl rfl (e_move rfl) ?_
  refine dP rfl rfl rfl (e_idxAK _ t75 t3 rfl rfl rfl (by first | omega | decide)) ?_
  refine dL rfl rfl rfl (by omega) (accB_ok rfl) (e_load1 t3 rfl rfl (by repeat (first | exact look_same | assumption | refine look_ne (by omega) ?_)) (by first | rfl | exact tri_getL (by omega))) ?_
  refine dP rfl rfl rfl (e_mul rfl rfl (inB _ (by omega))) ?_
  refine dP rfl rfl rfl (e_move rfl) ?_
  refine dP rfl rfl rfl (e_idxAK _ t72 t3 rfl rfl rfl (by first | omega | decide)) ?_
  refine dL rfl rfl rfl (by omega) (accB_ok rfl) (e_load1 t3 rfl rfl (by repeat (first | exact look_same | assumption | refine look_ne (by omega) ?_)) (by first | rfl | exact tri_getL (by omega))) ?_
  refine dP rfl rfl rfl (e_add rfl rfl (inB _ (by omega))) ?_
  refine dP rfl rfl rfl (e_assign rfl) ?_
  refine dEnd (hK _ [(6, _)] _ _ rfl ?_)
  clear hK K
  refine W.ret ?_
  refine ⟨.inr rfl, Ends.v0 (by repeat (first | exact self_old | assumption | refine set_old ?_ (by omega))) hfresh (by first | rfl | (simp [ltT, ltA, ltC, ltV]; try omega)) (res1 (resT rfl) rfl) ?_⟩
  exact congrArg (Value.int .i64) hl.1
theorem impl_Shadow_allowed_1_s (X Y Z : Int) (c : C) (pa b0 b1 b2 : Nat) (r0 r1 r2 : Bool) (x0 x1 x2 : List Int) (H : Heap) (n : Nat) (hpa : H pa = some (.cells false [.int .i64 X, .int .i64 Y, .int .i64 Z, .slice (some ⟨b0, 0, none⟩) x0.length 1, .slice (some ⟨b1, 0, none⟩) x1.length 1, .slice (some ⟨b2, 0, none⟩) x2.length 1])) (hb0 : H b0 = some (.cells r0 (ints x0))) (hb1 : H b1 = some (.cells r1 (ints x1))) (hb2 : H b2 = some (.cells r2 (ints x2))) (hk : ShOk X Y Z x0 x1 x2) (hc : (0 ≤ c.1 ∧ c.1 < X) ∧ (0 ≤ c.2.1 ∧ c.2.1 < Y) ∧ (0 ≤ c.2.2 ∧ c.2.2 < Z)) : Fn Try.prog 140 [.agg #[.int .i64 c.1, .int .i64 c.2.1, .int .i64 c.2.2], .pointer (some ⟨pa, 0, none⟩)] H n (.bool (alF X Y Z x0 x1 x2 c)) (H) (n) := by
  refine Fn.intro' Try.func140 rfl (by kernel_rfl) Try.ntmps140 (by simp) (by omega) fun hfresh => ?_
  have lt_hpa := lt_fresh hfresh hpa
  have lt_hb0 := lt_fresh hfresh hb0
  have lt_hb1 := lt_fresh hfresh hb1
  have lt_hb2 := lt_fresh hfresh hb2
  have hX := hk.box
  have hpn := fun d => pick_len (x0 := x0) (x1 := x1) (x2 := x2) d
  show W _ _ _ ⟨[(0, _), (1, _)], _, _⟩ _
  refine W.sR [1, 2] fun K hK => ?_
  refine st rfl rfl (e_boxA rfl) ?_
  refine st rfl rfl (e_assign rfl) ?_
  refine stEnd (hK _ [(1, _), (2, _)] _ _ rfl ?_)
  clear hK K
  refine W.seq ?_
  refine W.sR [1, 2, 5] fun K hK => ?_
  refine st rfl rfl (e_move rfl) ?_
  refine stEnd (hK _ [(1, _), (2, _), (5, _)] _ _ rfl ?_)
  clear hK K
  refine W.block ?_
  refine W.ord [5, 1, 2] (ts' := [(5, _)] ++ [(1, _), (2, _)]) rfl ?_
  refine W.loopC [(5, _)] [] (fun κ V G μ => ∃ d : Nat, V = [(5, .int .i64 (d : Nat))] ∧ κ = 3 - d ∧ (d ≤ 3) ∧ (∀ k, k < d → ¬ at1 (pick3 x2 x1 x0 k) (lineIx X Y Z k c) = 0)) _ ⟨0, rfl, rfl, (by first | omega | assumption | rfl | simp_all), (fun j hj => absurd hj (by omega))⟩ fun κ V G μ hinv hμ hkeep hfr => ?_
  obtain ⟨d, rfl, rfl, hd, hq⟩ := hinv
  refine W.sR [1, 2, 5, 6] fun K hK => ?_
  refine st rfl rfl (e_lss rfl rfl) ?_
  refine stB (fun hb1 => ?_) (fun hb1 => ?_)
  ·
    try simp only [decide_eq_true_eq, decide_eq_false_iff_not, Bool.not_eq_true', Bool.not_eq_false', Bool.not_eq_true, Bool.not_eq_false] at hb1
    refine stEnd (hK _ [(1, _), (2, _), (5, _), (6, _)] _ _ rfl ?_)
    clear hK K
    refine W.seq ?_
    refine W.condT rfl ?_
    refine W.skip ?_
    refine thenN ?_
    refine W.seq ?_
    refine W.block ?_
    refine W.sR [1, 2, 4, 5] fun K hK => ?_
    refine st rfl rfl (e_move rfl) ?_
    refine st rfl rfl (e_assign rfl) ?_
    refine stEnd (hK _ [(1, _), (2, _), (4, _), (5, _)] _ _ rfl ?_)
    clear hK K
    have hx := line_bd hX d hc
    have hdl := hk.len d (by omega)
    have hpe := hpn d
    have hpt := pick_lt (d := d) (show b2 < μ by omega) (show b1 < μ by omega) (show b0 < μ by omega)
    refine W.sD [1, 2, 5, 18] [0, 0, 3, 0, 15, 0, 0, 127, 255, 511, 1023] (by kernel_rfl) (by kernel_rfl) fun K hK => ?_
    refine dL rfl rfl rfl (by omega) (accB_ok rfl) (e_loadA t38 rfl rfl (by repeat (first | exact look_same | assumption | refine look_ne (by omega) ?_ | refine look_keep (by assumption) (by omega) (by simp; try omega) ?_)) rfl rfl) ?_
    refine dP rfl rfl rfl (e_move rfl) ?_
    refine dC rfl rfl rfl rfl (impl_Shadow_list_s _ _ _ _ _ _ _ _ _ _ _ _ (by omega) (by omega)) (accB_ok rfl) ?_
    refine dL rfl rfl rfl (by omega) (by repeat (first | exact trivial | refine And.intro (Or.inl rfl) ?_ | refine And.intro (Or.inr trivial) ?_ | refine And.intro (Or.inr (And.intro (Or.inl (by omega)) (by first | (simp; done) | (simp; omega)))) ?_ | refine And.intro (Or.inr (And.intro (Or.inr (by omega)) (by first | (simp; done) | (simp; omega)))) ?_ | refine And.intro (Or.inr (by simp [compat]; try omega)) ?_)) (e_loadA t38 rfl rfl (by repeat (first | exact look_same | assumption | refine look_ne (by omega) ?_ | refine look_keep (by assumption) (by omega) (by simp; try omega) ?_)) rfl rfl) ?_
    refine dC rfl rfl rfl rfl (impl_Shadow_box_s _ _ _ _ _ _ _ _ ) (accB_ok rfl) ?_
    refine dL rfl rfl rfl (by omega) (by repeat (first | exact trivial | refine And.intro (Or.inl rfl) ?_ | refine And.intro (Or.inr trivial) ?_ | refine And.intro (Or.inr (And.intro (Or.inl (by omega)) (by first | (simp; done) | (simp; omega)))) ?_ | refine And.intro (Or.inr (And.intro (Or.inr (by omega)) (by first | (simp; done) | (simp; omega)))) ?_ | refine And.intro (Or.inr (by simp [compat]; try omega)) ?_)) (e_loadA t72 rfl rfl (by repeat (first | exact look_same | assumption | refine look_ne (by omega) ?_ | refine look_keep (by assumption) (by omega) (by simp; try omega) ?_)) rfl rfl) ?_
    refine dP rfl rfl rfl (e_move rfl) ?_
    refine dC rfl rfl rfl rfl (impl_box_line_s _ _ _ _ _ _ _ (by assumption) (by assumption) (by first | assumption | omega)) (accB_ok rfl) ?_
    refine dP rfl rfl rfl (e_idxSK (lineIx X Y Z d c) t32 t3 rfl rfl rfl (by omega)) ?_
    refine dL rfl rfl rfl (by omega) (accB_ok rfl) (e_load1 t3 rfl rfl (pick_look (by repeat (first | exact look_same | assumption | refine look_ne (by omega) ?_ | refine look_keep (by assumption) (by omega) (by simp; try omega) ?_)) (by repeat (first | exact look_same | assumption | refine look_ne (by omega) ?_ | refine look_keep (by assumption) (by omega) (by simp; try omega) ?_)) (by repeat (first | exact look_same | assumption | refine look_ne (by omega) ?_ | refine look_keep (by assumption) (by omega) (by simp; try omega) ?_)) (by omega)) (ints_at (by omega))) ?_
    refine dP rfl rfl rfl (e_eql rfl rfl) ?_
    refine dB (fun hz => ?_) (fun hz => ?_)
    ·
      try simp only [decide_eq_true_eq, decide_eq_false_iff_not, Bool.not_eq_true', Bool.not_eq_false', Bool.not_eq_true, Bool.not_eq_false] at hz
      refine dEnd (hK _ [(1, _), (2, _), (5, _), (18, _)] _ _ rfl ?_)
      clear hK K
      refine W.condT rfl ?_
      refine W.sR [3] fun K hK => ?_
      refine st rfl rfl (e_assign rfl) ?_
      refine stEnd (hK _ [(3, _)] _ _ rfl ?_)
      clear hK K
      refine W.ret ?_
      refine blockR ?_
      refine thenR ?_
      refine thenR ?_
      refine blockR ?_
      refine thenR ?_
      refine ⟨.inr rfl, Ends.v0 (by repeat (first | exact self_old | assumption | refine set_old ?_ (by omega) | refine keep_old (by assumption) ?_ (by omega) (by simp; try omega))) hfresh (by first | rfl | (simp [ltT, ltA, ltC, ltV]; try omega)) (res1 (resT rfl) rfl) ?_⟩
      rw [alF_no (k := d) (by omega) hz]
    ·
      try simp only [decide_eq_true_eq, decide_eq_false_iff_not, Bool.not_eq_true', Bool.not_eq_false', Bool.not_eq_true, Bool.not_eq_false] at hz
      refine dEnd (hK _ [(1, _), (2, _), (5, _), (18, _)] _ _ rfl ?_)
      clear hK K
      refine W.condF rfl ?_
      refine W.skip ?_
      refine blockN ?_
      refine thenN ?_
      refine W.rR [5, 1, 2] fun K hK => ?_
      refine st rfl rfl (e_add rfl rfl (inB _ (by omega))) ?_
      refine st rfl rfl (e_move rfl) ?_
      refine stEnd (hK _ [(5, _), (1, _), (2, _)] _ _ rfl ?_)
      clear hK K
      exact roundN (V' := [(5, _)]) [5, 1, 2] rfl (by omega) (by repeat (first | exact Keeps.refl _ _ _ | assumption | refine Keeps.trans ?_ (by assumption) (by omega) (by simp; try omega) | refine Keeps.set ?_ (by first | exact Or.inl (by omega) | (simp; done) | (simp; omega)) | refine Keeps.del ?_ (by first | exact Or.inl (by omega) | (simp; done) | (simp; omega)))) _ (by omega) ⟨d + 1, rfl, rfl, (by first | omega | assumption | simp_all), (all_succ hq hz)⟩
  ·
    try simp only [decide_eq_true_eq, decide_eq_false_iff_not, Bool.not_eq_true', Bool.not_eq_false', Bool.not_eq_true, Bool.not_eq_false] at hb1
    refine stEnd (hK _ [(1, _), (2, _), (5, _), (6, _)] _ _ rfl ?_)
    clear hK K
    refine W.seq ?_
    refine W.condF rfl ?_
    refine W.exit ?_
    refine thenE ?_
    refine thenE ?_
    refine blockX ?_
    refine thenN ?_
    refine W.sR [3] fun K hK => ?_
    refine st rfl rfl (e_assign rfl) ?_
    refine stEnd (hK _ [(3, _)] _ _ rfl ?_)
    clear hK K
    refine W.ret ?_
    refine ⟨.inr rfl, Ends.v0 (by repeat (first | exact self_old | assumption | refine set_old ?_ (by omega) | refine keep_old (by assumption) ?_ (by omega) (by simp; try omega))) hfresh (by first | rfl | (simp [ltT, ltA, ltC, ltV]; try omega)) (res1 (resT rfl) rfl) ?_⟩
    rw [alF_yes (fun k hk => hq k (by omega))]
theorem impl_Shadow_allowed_s (X Y Z : Int) (b0 b1 b2 : Nat) (r0 r1 r2 : Bool) (x0 x1 x2 : List Int) (H : Heap) (n : Nat) (hb0 : H b0 = some (.cells r0 (ints x0))) (hb1 : H b1 = some (.cells r1 (ints x1))) (hb2 : H b2 = some (.cells r2 (ints x2))) (hk : ShOk X Y Z x0 x1 x2) : Fn Try.prog 87 [.agg #[.int .i64 X, .int .i64 Y, .int .i64 Z, .slice (some ⟨b0, 0, none⟩) x0.length 1, .slice (some ⟨b1, 0, none⟩) x1.length 1, .slice (some ⟨b2, 0, none⟩) x2.length 1]] H n (U (thoseTo Y Z (alF X Y Z x0 x1 x2) (vol X Y Z))) (H) (n) := by
  refine Fn.intro' Try.func87 rfl (by kernel_rfl) Try.ntmps87 (by simp) (by omega) fun hfresh => ?_
  have lt_hb0 := lt_fresh hfresh hb0
  have lt_hb1 := lt_fresh hfresh hb1
  have lt_hb2 := lt_fresh hfresh hb2
  have hX := hk.box
  show W _ _ _ ⟨[(0, _)], _, _⟩ _
  refine W.sR [1] fun K hK => ?_
  refine st rfl rfl (e_boxA rfl) ?_
  refine st rfl rfl (e_assign rfl) ?_
  refine stEnd (hK _ [(1, _)] _ _ rfl ?_)
  clear hK K
  refine W.sR [2] fun K hK => ?_
  refine st rfl rfl (e_loadA t38 rfl rfl (by repeat (first | exact look_same | assumption | refine look_ne (by omega) ?_)) rfl rfl) ?_
  refine stC rfl rfl rfl (impl_Shadow_box_s _ _ _ _ _ _ _ _ ) ?_
  refine st rfl rfl (e_makeFunc rfl rfl) ?_
  refine stC rfl rfl rfl (impl_box_those_s _ _ _ _ _ (alF X Y Z x0 x1 x2) _ _ (by assumption) (fun G m i hi hm hG => impl_Shadow_allowed_1_s X Y Z (cellAt Y Z i) _ b0 b1 b2 r0 r1 r2 x0 x1 x2 G m (hG _ _ (by omega) (by repeat (first | exact look_same | assumption | refine look_ne (by omega) ?_ | refine look_keep (by assumption) (by omega) (by simp; try omega) ?_ | refine look_hide (by omega) (by first | exact List.not_mem_nil | (simp [hidden, Nat.testBit]; done) | (simp [hidden, Nat.testBit]; omega)) ?_))) (hG _ _ (by omega) (by repeat (first | exact look_same | assumption | refine look_ne (by omega) ?_ | refine look_keep (by assumption) (by omega) (by simp; try omega) ?_ | refine look_hide (by omega) (by first | exact List.not_mem_nil | (simp [hidden, Nat.testBit]; done) | (simp [hidden, Nat.testBit]; omega)) ?_))) (hG _ _ (by omega) (by repeat (first | exact look_same | assumption | refine look_ne (by omega) ?_ | refine look_keep (by assumption) (by omega) (by simp; try omega) ?_ | refine look_hide (by omega) (by first | exact List.not_mem_nil | (simp [hidden, Nat.testBit]; done) | (simp [hidden, Nat.testBit]; omega)) ?_))) (hG _ _ (by omega) (by repeat (first | exact look_same | assumption | refine look_ne (by omega) ?_ | refine look_keep (by assumption) (by omega) (by simp; try omega) ?_ | refine look_hide (by omega) (by first | exact List.not_mem_nil | (simp [hidden, Nat.testBit]; done) | (simp [hidden, Nat.testBit]; omega)) ?_))) hk (cellAt_in hX hi))) ?_
  refine st rfl rfl (e_assign rfl) ?_
  refine stEnd (hK _ [(2, _)] _ _ rfl ?_)
  clear hK K
  refine W.ret ?_
  refine ⟨.inr rfl, Ends.v0 (by repeat (first | exact self_old | assumption | refine set_old ?_ (by omega))) hfresh (by first | rfl | (simp [ltT, ltA, ltC, ltV]; try omega)) (res1 (resT rfl) rfl) ?_⟩
  rfl
theorem impl_set_has_s (s : BitVec 64) (i : Nat) (H : Heap) (n : Nat) (hi : i < 64) : Fn Try.prog 150 [U s, .int .i64 (i : Nat)] H n (.bool (s.getLsbD i)) (H) (n) := by
  refine Fn.intro' Try.func150 rfl (by kernel_rfl) Try.ntmps150 (by simp) (by omega) fun hfresh => ?_
  show W _ _ _ ⟨[(0, _), (1, _)], _, _⟩ _
  refine W.sR [0, 1] fun K hK => ?_
  refine st rfl rfl (e_assign rfl) ?_
  refine stEnd (hK _ [(0, _), (1, _)] _ _ rfl ?_)
  clear hK K
  refine W.sR [4] fun K hK => ?_
  refine st rfl rfl (e_move rfl) ?_
  refine st rfl rfl (e_move rfl) ?_
  refine st rfl rfl (e_shrU (i) rfl rfl rfl) ?_
  refine st rfl rfl (e_andU rfl (ev_cU (k := 1) (by decide) rfl)) ?_
  refine st rfl rfl (e_eqlU rfl (ev_cU (k := 1) (by decide) rfl)) ?_
  refine st rfl rfl (e_assign rfl) ?_
  refine stEnd (hK _ [(4, _)] _ _ rfl ?_)
  clear hK K
  refine W.ret ?_
  refine ⟨.inr rfl, Ends.v0 (by repeat (first | exact self_old | assumption | refine set_old ?_ (by omega))) hfresh (by first | rfl | (simp [ltT, ltA, ltC, ltV]; try omega)) (res1 (resT rfl) rfl) ?_⟩
  exact congrArg Value.bool (has_bit hi)
theorem impl_box_list_s (X Y Z : Int) (s : BitVec 64) (H : Heap) (n : Nat) (hX : (1 ≤ X ∧ X ≤ 4) ∧ (1 ≤ Y ∧ Y ≤ 4) ∧ (1 ≤ Z ∧ Z ≤ 4)) : Fn Try.prog 138 [.agg #[.int .i64 X, .int .i64 Y, .int .i64 Z], U s] H n (.slice (some ⟨n, 0, none⟩) (cellsOf X Y Z s).length 3) (H.set n (.cells false (flat (cellsOf X Y Z s)))) (n + 1) := by
  refine Fn.intro' Try.func138 rfl (by kernel_rfl) Try.ntmps138 (by simp) (by omega) fun hfresh => ?_
  have hv := vol_le hX
  show W _ _ _ ⟨[(0, _), (1, _)], _, _⟩ _
  refine W.sR [1, 2] fun K hK => ?_
  refine st rfl rfl (e_boxA rfl) ?_
  refine st rfl rfl (e_assign rfl) ?_
  refine stEnd (hK _ [(1, _), (2, _)] _ _ rfl ?_)
  clear hK K
  refine W.sR [1, 2, 5] fun K hK => ?_
  refine st rfl rfl (e_buildSlice rfl rfl (bsl22_0)) ?_
  refine st rfl rfl (e_assign rfl) ?_
  refine stEnd (hK _ [(1, _), (2, _), (5, _)] _ _ rfl ?_)
  clear hK K
  refine W.seq ?_
  refine W.sR [1, 2, 5, 9, 10] fun K hK => ?_
  refine st rfl rfl (e_loadA t75 rfl rfl (by repeat (first | exact look_same | assumption | refine look_ne (by omega) ?_ | refine look_del (by omega) ?_ | refine look_keep (by assumption) (by omega) (by simp; try omega) ?_)) rfl rfl) ?_
  refine stC rfl rfl rfl (impl_box_size_s _ _ _ _ _ (by omega)) ?_
  refine st rfl rfl (e_move rfl) ?_
  refine stEnd (hK _ [(1, _), (2, _), (5, _), (9, _), (10, _)] _ _ rfl ?_)
  clear hK K
  refine W.block ?_
  refine W.ord [5, 10, 1, 2, 9] (ts' := [(5, _), (10, _)] ++ [(1, _), (2, _), (9, _)]) rfl ?_
  refine W.loopC [(5, _), (10, _)] [n + 1] (fun κ V G μ => ∃ i p : Nat, V = [(5, .slice (some ⟨p, 0, none⟩) (cellsTo Y Z s i).length 3), (10, .int .i64 (i : Nat))] ∧ κ = vol X Y Z - i ∧ (i ≤ vol X Y Z) ∧ ((p = n + 1 ∨ n + 1 + 1 ≤ p) ∧ p < μ) ∧ (G p = some (.cells false (flat (cellsTo Y Z s i))))) _ ⟨0, n + 1, rfl, rfl, (by first | omega | assumption | rfl | simp_all), (by omega), look_same⟩ fun κ V G μ hinv hμ hkeep hfr => ?_
  obtain ⟨i, p, rfl, rfl, hi, hp, hG⟩ := hinv
  refine W.sR [1, 2, 5, 9, 10, 11] fun K hK => ?_
  refine st rfl rfl (e_lss rfl rfl) ?_
  refine stB (fun hb1 => ?_) (fun hb1 => ?_)
  ·
    try simp only [decide_eq_true_eq, decide_eq_false_iff_not, Bool.not_eq_true', Bool.not_eq_false', Bool.not_eq_true, Bool.not_eq_false] at hb1
    refine stEnd (hK _ [(1, _), (2, _), (5, _), (9, _), (10, _), (11, _)] _ _ rfl ?_)
    clear hK K
    refine W.seq ?_
    refine W.condT rfl ?_
    refine W.skip ?_
    refine thenN ?_
    refine W.seq ?_
    refine W.block ?_
    refine W.sR [1, 2, 5, 6, 9, 10] fun K hK => ?_
    refine st rfl rfl (e_move rfl) ?_
    refine st rfl rfl (e_assign rfl) ?_
    refine stEnd (hK _ [(1, _), (2, _), (5, _), (6, _), (9, _), (10, _)] _ _ rfl ?_)
    clear hK K
    refine W.sR [1, 2, 5, 6, 9, 10, 15] fun K hK => ?_
    refine st rfl rfl (e_move rfl) ?_
    refine st rfl rfl (e_move rfl) ?_
    refine stC rfl rfl rfl (impl_set_has_s _ _ _ _ (by omega)) ?_
    refine stB (fun hb => ?_) (fun hb => ?_)
    ·
      try simp only [decide_eq_true_eq, decide_eq_false_iff_not, Bool.not_eq_true', Bool.not_eq_false', Bool.not_eq_true, Bool.not_eq_false] at hb
      refine stEnd (hK _ [(1, _), (2, _), (5, _), (6, _), (9, _), (10, _), (15, _)] _ _ rfl ?_)
      clear hK K
      refine W.condT rfl ?_
      refine W.rR [1, 2, 5, 9, 10] fun K hK => ?_
      refine st rfl rfl (e_move rfl) ?_
      refine st rfl rfl (e_loadA t75 rfl rfl (by repeat (first | exact look_same | assumption | refine look_ne (by omega) ?_ | refine look_del (by omega) ?_ | refine look_keep (by assumption) (by omega) (by simp; try omega) ?_)) rfl rfl) ?_
      refine st rfl rfl (e_move rfl) ?_
      refine stC rfl rfl rfl (impl_box_cell_s _ _ _ _ _ _ (by assumption) (by omega)) ?_
      refine st rfl rfl (e_buildSlice rfl rfl (bsl22_1)) ?_
      refine st rfl rfl (e_append t22 t22 t72 rfl rfl (by repeat (first | exact look_same | assumption | refine look_ne (by omega) ?_ | refine look_del (by omega) ?_ | refine look_keep (by assumption) (by omega) (by simp; try omega) ?_)) (by repeat (first | exact look_same | assumption | refine look_ne (by omega) ?_ | refine look_del (by omega) ?_ | refine look_keep (by assumption) (by omega) (by simp; try omega) ?_)) (by decide) (flat_length _) rfl (by have := cellsTo_len Y Z s i; omega)) ?_
      refine st rfl rfl (e_assign rfl) ?_
      refine stEnd (hK _ [(1, _), (2, _), (5, _), (9, _), (10, _)] _ _ rfl ?_)
      clear hK K
      refine blockN ?_
      refine thenN ?_
      refine W.rR [5, 10, 1, 2, 9] fun K hK => ?_
      refine st rfl rfl (e_add rfl rfl (inB _ (by omega))) ?_
      refine st rfl rfl (e_move rfl) ?_
      refine stEnd (hK _ [(5, _), (10, _), (1, _), (2, _), (9, _)] _ _ rfl ?_)
      clear hK K
      exact roundN (V' := [(5, _), (10, _)]) [5, 10, 1, 2, 9] rfl (by omega) (by repeat (first | exact Keeps.refl _ _ _ | assumption | refine Keeps.trans ?_ (by assumption) (by omega) (by simp; try omega) | refine Keeps.set ?_ (by first | exact Or.inl (by omega) | (simp; done) | (simp; omega)) | refine Keeps.del ?_ (by first | exact Or.inl (by omega) | (simp; done) | (simp; omega)))) _ (by omega) ⟨i + 1, μ + 1, (by first | (rw [cellsTo_T hb]; simp) | (rw [cellsTo_F hb]; rfl)), rfl, (by first | omega | assumption | simp_all), (by omega), (by first | exact (look_same.trans (congrArg some (congrArg (Blk.cells false) (by rw [cellsTo_T hb]; exact flat_snoc _ _)))) | (rw [cellsTo_F hb]; exact (by repeat (first | exact look_same | assumption | refine look_ne (by omega) ?_ | refine look_keep (by assumption) (by omega) (by simp; try omega) ?_))))⟩
    ·
      try simp only [decide_eq_true_eq, decide_eq_false_iff_not, Bool.not_eq_true', Bool.not_eq_false', Bool.not_eq_true, Bool.not_eq_false] at hb
      refine stEnd (hK _ [(1, _), (2, _), (5, _), (6, _), (9, _), (10, _), (15, _)] _ _ rfl ?_)
      clear hK K
      refine W.condF rfl ?_
      refine W.skip ?_
      refine blockN ?_
      refine thenN ?_
      refine W.rR [5, 10, 1, 2, 9] fun K hK => ?_
      refine st rfl rfl (e_add rfl rfl (inB _ (by omega))) ?_
      refine st rfl rfl (e_move rfl) ?_
      refine stEnd (hK _ [(5, _), (10, _), (1, _), (2, _), (9, _)] _ _ rfl ?_)
      clear hK K
      exact roundN (V' := [(5, _), (10, _)]) [5, 10, 1, 2, 9] rfl (by omega) (by repeat (first | exact Keeps.refl _ _ _ | assumption | refine Keeps.trans ?_ (by assumption) (by omega) (by simp; try omega) | refine Keeps.set ?_ (by first | exact Or.inl (by omega) | (simp; done) | (simp; omega)) | refine Keeps.del ?_ (by first | exact Or.inl (by omega) | (simp; done) | (simp; omega)))) _ (by omega) ⟨i + 1, p, (by first | (rw [cellsTo_T hb]; simp) | (rw [cellsTo_F hb]; rfl)), rfl, (by first | omega | assumption | simp_all), (by omega), (by first | exact (look_same.trans (congrArg some (congrArg (Blk.cells false) (by rw [cellsTo_T hb]; exact flat_snoc _ _)))) | (rw [cellsTo_F hb]; exact (by repeat (first | exact look_same | assumption | refine look_ne (by omega) ?_ | refine look_keep (by assumption) (by omega) (by simp; try omega) ?_))))⟩
  ·
    try simp only [decide_eq_true_eq, decide_eq_false_iff_not, Bool.not_eq_true', Bool.not_eq_false', Bool.not_eq_true, Bool.not_eq_false] at hb1
    refine stEnd (hK _ [(1, _), (2, _), (5, _), (9, _), (10, _), (11, _)] _ _ rfl ?_)
    clear hK K
    refine W.seq ?_
    refine W.condF rfl ?_
    refine W.exit ?_
    refine thenE ?_
    refine thenE ?_
    refine blockX ?_
    refine thenN ?_
    refine W.sR [4] fun K hK => ?_
    refine st rfl rfl (e_move rfl) ?_
    refine st rfl rfl (e_assign rfl) ?_
    refine stEnd (hK _ [(4, _)] _ _ rfl ?_)
    clear hK K
    refine W.ret ?_
    refine ⟨.inr rfl, Ends.v1 (p) (by omega) (by repeat (first | exact self_old | assumption | refine set_old ?_ (by omega) | refine del_old ?_ (by omega) | refine keep_old (by assumption) ?_ (by omega) (by simp; try omega))) hfresh (by repeat (first | exact look_same | assumption | refine look_ne (by omega) ?_ | refine look_del (by omega) ?_ | refine look_keep (by assumption) (by omega) (by simp; try omega) ?_)) ?_ (by first | exact flat_plain _ | exact ints_plain _) (by simp [ltT, ltA, ltC, ltV]; try omega) (res1 (resT rfl) rfl) ?_⟩
    · (obtain rfl : i = vol X Y Z := by omega); rfl
    · (obtain rfl : i = vol X Y Z := by omega); simp [renT, renV, renC, renA, one, cellsTo_all]
theorem impl_box_view_s (X Y Z : Int) (s : BitVec 64) (p : Nat) (H : Heap) (n : Nat) (hX : (1 ≤ X ∧ X ≤ 4) ∧ (1 ≤ Y ∧ Y ≤ 4) ∧ (1 ≤ Z ∧ Z ≤ 4)) (hp : p < 3) : Fn Try.prog 136 [.agg #[.int .i64 X, .int .i64 Y, .int .i64 Z], U s, .int .i64 (p : Nat)] H n (.slice (some ⟨n, 0, none⟩) (viewL X Y Z p (cellsOf X Y Z s)).length 1) (H.set n (.cells false (ints (viewL X Y Z p (cellsOf X Y Z s))))) (n + 1) := by
  refine Fn.intro' Try.func136 rfl (by kernel_rfl) Try.ntmps136 (by simp) (by omega) fun hfresh => ?_
  have hcv := cells_valid s hX
  have hvl := vol_le hX
  have hcl := cellsOf_len (X := X) (Y := Y) (Z := Z) s
  have hlb := lines_bd hX p
  show W _ _ _ ⟨[(0, _), (1, _), (2, _)], _, _⟩ _
  refine W.sR [1, 2, 3] fun K hK => ?_
  refine st rfl rfl (e_boxA rfl) ?_
  refine st rfl rfl (e_assign rfl) ?_
  refine stEnd (hK _ [(1, _), (2, _), (3, _)] _ _ rfl ?_)
  clear hK K
  refine W.sR [1, 2, 3, 7] fun K hK => ?_
  refine st rfl rfl (e_loadA t75 rfl rfl (by repeat (first | exact look_same | assumption | refine look_ne (by omega) ?_ | refine look_keep (by assumption) (by omega) (by simp; try omega) ?_)) rfl rfl) ?_
  refine st rfl rfl (e_move rfl) ?_
  refine stC rfl rfl rfl (impl_box_lines_s _ _ _ _ _ _ (by assumption) (by first | assumption | omega)) ?_
  refine st rfl rfl (e_makeK (linesOf X Y Z p) t32 t3 rfl rfl (by omega) (by decide) (by omega)) ?_
  refine st rfl rfl (e_assign rfl) ?_
  refine stEnd (hK _ [(1, _), (2, _), (3, _), (7, _)] _ _ rfl ?_)
  clear hK K
  refine W.seq ?_
  refine W.sR [2, 3, 7, 16, 17, 18] fun K hK => ?_
  refine st rfl rfl (e_loadA t75 rfl rfl (by repeat (first | exact look_same | assumption | refine look_ne (by omega) ?_ | refine look_keep (by assumption) (by omega) (by simp; try omega) ?_)) rfl rfl) ?_
  refine st rfl rfl (e_move rfl) ?_
  refine stC rfl rfl rfl (impl_box_list_s _ _ _ _ _ _ (by assumption)) ?_
  refine st rfl rfl (e_len t22 rfl) ?_
  refine st rfl rfl (e_move rfl) ?_
  refine stEnd (hK _ [(2, _), (3, _), (7, _), (16, _), (17, _), (18, _)] _ _ rfl ?_)
  clear hK K
  refine W.block ?_
  refine W.ord [18, 2, 3, 7, 16, 17] (ts' := [(18, _)] ++ [(2, _), (3, _), (7, _), (16, _), (17, _)]) rfl ?_
  refine W.loopC [(18, _)] [n + 1] (fun κ V G μ => ∃ i : Nat, V = [(18, .int .i64 (i : Nat))] ∧ κ = (cellsOf X Y Z s).length - i ∧ (i ≤ (cellsOf X Y Z s).length) ∧ (G (n + 1) = some (.cells false (ints (viewN X Y Z p (cellsOf X Y Z s) i))))) _ ⟨0, rfl, rfl, (by first | omega | assumption | rfl | simp_all), (by rw [viewN_zero, ← zeros_ints]; exact (by repeat (first | exact look_same | assumption | refine look_ne (by omega) ?_ | refine look_keep (by assumption) (by omega) (by simp; try omega) ?_)))⟩ fun κ V G μ hinv hμ hkeep hfr => ?_
  obtain ⟨i, rfl, rfl, hi, hG⟩ := hinv
  refine W.sR [2, 3, 7, 16, 17, 18, 19] fun K hK => ?_
  refine st rfl rfl (e_lss rfl rfl) ?_
  refine stB (fun hb1 => ?_) (fun hb1 => ?_)
  ·
    try simp only [decide_eq_true_eq, decide_eq_false_iff_not, Bool.not_eq_true', Bool.not_eq_false', Bool.not_eq_true, Bool.not_eq_false] at hb1
    refine stEnd (hK _ [(2, _), (3, _), (7, _), (16, _), (17, _), (18, _), (19, _)] _ _ rfl ?_)
    clear hK K
    refine W.seq ?_
    refine W.condT rfl ?_
    refine W.skip ?_
    refine thenN ?_
    refine W.seq ?_
    refine W.block ?_
    have hc := hcv.inn _ (at3_mem (show i < (cellsOf X Y Z s).length by omega))
    have hx := line_bd hX p hc
    have hb := viewN_bd (X := X) (Y := Y) (Z := Z) (p := p) (cs := (cellsOf X Y Z s)) i hi (lineIx X Y Z p (at3 (cellsOf X Y Z s) i))
    refine W.sR [2, 3, 7, 9, 16, 17, 18] fun K hK => ?_
    refine st rfl rfl (e_idxSK _ t22 t72 rfl rfl rfl (by first | omega | decide)) ?_
    refine st rfl rfl (e_loadP t72 rfl rfl (by repeat (first | exact look_same | assumption | refine look_ne (by omega) ?_ | refine look_keep (by assumption) (by omega) (by simp; try omega) ?_)) (flat_at (by omega))) ?_
    refine st rfl rfl (e_alloc t72 rfl) ?_
    refine stN rfl (e_storeA t72 rfl rfl (by repeat (first | exact look_same | assumption | refine look_ne (by omega) ?_ | refine look_keep (by assumption) (by omega) (by simp; try omega) ?_)) rfl rfl rfl (by decide)) ?_
    refine stEnd (hK _ [(2, _), (3, _), (7, _), (9, _), (16, _), (17, _), (18, _)] _ _ rfl ?_)
    clear hK K
    refine W.rR [2, 3, 7, 16, 17, 18] fun K hK => ?_
    refine st rfl rfl (e_move rfl) ?_
    refine st rfl rfl (e_loadA t75 rfl rfl (by repeat (first | exact look_same | assumption | refine look_ne (by omega) ?_ | refine look_keep (by assumption) (by omega) (by simp; try omega) ?_)) rfl rfl) ?_
    refine st rfl rfl (e_loadA t72 rfl rfl (by repeat (first | exact look_same | assumption | refine look_ne (by omega) ?_ | refine look_keep (by assumption) (by omega) (by simp; try omega) ?_)) rfl rfl) ?_
    refine st rfl rfl (e_move rfl) ?_
    refine stC rfl rfl rfl (impl_box_line_s _ _ _ _ _ _ _ (by assumption) (by assumption) (by first | assumption | omega)) ?_
    refine st rfl rfl (e_idxSK (lineIx X Y Z p (at3 (cellsOf X Y Z s) i)) t32 t3 rfl rfl rfl hx.2) ?_
    refine st rfl rfl (e_load1 t3 rfl rfl (by repeat (first | exact look_same | assumption | refine look_ne (by omega) ?_ | refine look_keep (by assumption) (by omega) (by simp; try omega) ?_)) (ints_at (by rw [viewN_length]; exact hx.2))) ?_
    refine st rfl rfl (e_add rfl rfl (inB _ (by omega))) ?_
    refine st rfl rfl (e_idxSK (lineIx X Y Z p (at3 (cellsOf X Y Z s) i)) t32 t3 rfl rfl rfl hx.2) ?_
    refine stN rfl (e_store1 t3 rfl rfl rfl (by repeat (first | exact look_same | assumption | refine look_ne (by omega) ?_ | refine look_keep (by assumption) (by omega) (by simp; try omega) ?_)) (by rw [ints_length, viewN_length]; have := hx.2; omega)) ?_
    refine stEnd (hK _ [(2, _), (3, _), (7, _), (16, _), (17, _), (18, _)] _ _ rfl ?_)
    clear hK K
    refine blockN ?_
    refine thenN ?_
    refine W.rR [18, 2, 3, 7, 16, 17] fun K hK => ?_
    refine st rfl rfl (e_add rfl rfl (inB _ (by omega))) ?_
    refine st rfl rfl (e_move rfl) ?_
    refine stEnd (hK _ [(18, _), (2, _), (3, _), (7, _), (16, _), (17, _)] _ _ rfl ?_)
    clear hK K
    exact roundN (V' := [(18, _)]) [18, 2, 3, 7, 16, 17] rfl (by omega) (by repeat (first | exact Keeps.refl _ _ _ | assumption | refine Keeps.trans ?_ (by assumption) (by omega) (by simp; try omega) | refine Keeps.set ?_ (by first | exact Or.inl (by omega) | (simp; done) | (simp; omega)) | refine Keeps.del ?_ (by first | exact Or.inl (by omega) | (simp; done) | (simp; omega)))) _ (by omega) ⟨i + 1, rfl, rfl, (by first | omega | assumption | simp_all), (look_same.trans (congrArg some (congrArg (Blk.cells false) (ints_set.trans (congrArg ints (viewN_succ (by omega)))))))⟩
  ·
    try simp only [decide_eq_true_eq, decide_eq_false_iff_not, Bool.not_eq_true', Bool.not_eq_false', Bool.not_eq_true, Bool.not_eq_false] at hb1
    refine stEnd (hK _ [(2, _), (3, _), (7, _), (16, _), (17, _), (18, _), (19, _)] _ _ rfl ?_)
    clear hK K
    refine W.seq ?_
    refine W.condF rfl ?_
    refine W.exit ?_
    refine thenE ?_
    refine thenE ?_
    refine blockX ?_
    refine thenN ?_
    refine W.sR [6] fun K hK => ?_
    refine st rfl rfl (e_move rfl) ?_
    refine st rfl rfl (e_assign rfl) ?_
    refine stEnd (hK _ [(6, _)] _ _ rfl ?_)
    clear hK K
    refine W.ret ?_
    refine ⟨.inr rfl, Ends.v1 (n + 1) (by omega) (by repeat (first | exact self_old | assumption | refine set_old ?_ (by omega) | refine keep_old (by assumption) ?_ (by omega) (by simp; try omega))) hfresh (by repeat (first | exact look_same | assumption | refine look_ne (by omega) ?_ | refine look_keep (by assumption) (by omega) (by simp; try omega) ?_)) ?_ (by first | exact flat_plain _ | exact ints_plain _) (by simp [ltT, ltA, ltC, ltV]; try omega) (res1 (resT rfl) rfl) ?_⟩
    · (obtain rfl : i = (cellsOf X Y Z s).length := by omega); rfl
    · simp [renT, renV, renC, renA, one, viewN_length]
theorem bld137_ : cBuild Try.prog 137 [] = some (.agg #[.slice none 0 0, .slice none 0 0, .slice none 0 0]) := by
  simp [cBuild, t137, t32, fieldsOk, placesC, fillC, konst0, putC]
theorem impl_box_shadow_s (X Y Z : Int) (s : BitVec 64) (H : Heap) (n : Nat) (hX : (1 ≤ X ∧ X ≤ 4) ∧ (1 ≤ Y ∧ Y ≤ 4) ∧ (1 ≤ Z ∧ Z ≤ 4)) : Fn Try.prog 90 [.agg #[.int .i64 X, .int .i64 Y, .int .i64 Z], U s] H n (.agg #[.int .i64 X, .int .i64 Y, .int .i64 Z, .slice (some ⟨n, 0, none⟩) (onesL (viewL X Y Z 2 (cellsOf X Y Z s))).length 1, .slice (some ⟨n + 1, 0, none⟩) (onesL (viewL X Y Z 1 (cellsOf X Y Z s))).length 1, .slice (some ⟨n + 1 + 1, 0, none⟩) (onesL (viewL X Y Z 0 (cellsOf X Y Z s))).length 1]) (((H.set n (.cells false (ints (onesL (viewL X Y Z 2 (cellsOf X Y Z s)))))).set (n + 1) (.cells false (ints (onesL (viewL X Y Z 1 (cellsOf X Y Z s)))))).set (n + 1 + 1) (.cells false (ints (onesL (viewL X Y Z 0 (cellsOf X Y Z s)))))) (n + 1 + 1 + 1) := by
  refine Fn.intro' Try.func90 rfl (by kernel_rfl) Try.ntmps90 (by simp) (by omega) fun hfresh => ?_
  have hvl := vol_le hX
  have hcl := cellsOf_len (X := X) (Y := Y) (Z := Z) s
  show W _ _ _ ⟨[(0, _), (1, _)], _, _⟩ _
  refine W.sR [1, 2, 4] fun K hK => ?_
  refine st rfl rfl (e_boxA rfl) ?_
  refine st rfl rfl (e_alloc t38 rfl) ?_
  refine stEnd (hK _ [(1, _), (2, _), (4, _)] _ _ rfl ?_)
  clear hK K
  refine W.sR [1, 2, 4, 5] fun K hK => ?_
  refine st rfl rfl (e_build rfl rfl (bld137_ )) ?_
  refine st rfl rfl (e_alloc t137 rfl) ?_
  refine stN rfl (e_storeA t137 rfl rfl (by repeat (first | exact look_same | assumption | refine look_ne (by omega) ?_ | refine look_keep (by assumption) (by omega) (by simp; try omega) ?_)) rfl rfl rfl (by decide)) ?_
  refine stEnd (hK _ [(1, _), (2, _), (4, _), (5, _)] _ _ rfl ?_)
  clear hK K
  refine W.seq ?_
  refine W.sR [1, 2, 4, 5, 10] fun K hK => ?_
  refine st rfl rfl (e_move rfl) ?_
  refine stEnd (hK _ [(1, _), (2, _), (4, _), (5, _), (10, _)] _ _ rfl ?_)
  clear hK K
  refine W.block ?_
  refine W.ord [10, 1, 2, 4, 5] (ts' := [(10, _)] ++ [(1, _), (2, _), (4, _), (5, _)]) rfl ?_
  refine W.loopC [(10, _)] [n + 1 + 1] (fun κ V G0 μ0 => ∃ (d : Nat) (Q : Nat → Nat), V = [(10, .int .i64 (d : Nat))] ∧ κ = 3 - d ∧ (d ≤ 3) ∧ (G0 (n + 1 + 1) = some (.cells false (shL Q (lnV X Y Z (cellsOf X Y Z s)) d))) ∧ (∀ k, k < d → (n + 1 + 1 + 1 ≤ Q k ∧ Q k < μ0) ∧ G0 (Q k) = some (.cells false (ints (onesL (viewL X Y Z k (cellsOf X Y Z s)))))) ∧ (∀ j k, j < k → k < d → Q j ≠ Q k)) _ ⟨0, fun _ => 0, rfl, rfl, (by first | omega | assumption | rfl | simp_all), look_same, (fun k hk => absurd hk (by omega)), (fun j k _ hk => absurd hk (by omega))⟩ fun κ V G0 μ0 hinv hμ0 hkeep0 hfr0 => ?_
  obtain ⟨d, Q, rfl, rfl, hd, hL, hQ, hD⟩ := hinv
  refine W.sR [1, 2, 4, 5, 10, 11] fun K hK => ?_
  refine st rfl rfl (e_lss rfl rfl) ?_
  refine stB (fun hb1 => ?_) (fun hb1 => ?_)
  ·
    try simp only [decide_eq_true_eq, decide_eq_false_iff_not, Bool.not_eq_true', Bool.not_eq_false', Bool.not_eq_true, Bool.not_eq_false] at hb1
    refine stEnd (hK _ [(1, _), (2, _), (4, _), (5, _), (10, _), (11, _)] _ _ rfl ?_)
    clear hK K
    refine W.seq ?_
    refine W.condT rfl ?_
    refine W.skip ?_
    refine thenN ?_
    refine W.seq ?_
    refine W.block ?_
    refine W.sR [1, 2, 4, 5, 6, 10] fun K hK => ?_
    refine st rfl rfl (e_move rfl) ?_
    refine st rfl rfl (e_assign rfl) ?_
    refine stEnd (hK _ [(1, _), (2, _), (4, _), (5, _), (6, _), (10, _)] _ _ rfl ?_)
    clear hK K
    have hlb := lines_bd hX d
    have hvd := viewL_length X Y Z d (cellsOf X Y Z s)
    refine W.sR [1, 2, 4, 5, 6, 10] fun K hK => ?_
    refine st rfl rfl (e_move rfl) ?_
    refine st rfl rfl (e_loadA t75 rfl rfl (by repeat (first | exact look_same | assumption | refine look_ne (by omega) ?_ | refine look_keep (by assumption) (by omega) (by simp; try omega) ?_)) rfl rfl) ?_
    refine st rfl rfl (e_move rfl) ?_
    refine st rfl rfl (e_move rfl) ?_
    refine stC rfl rfl rfl (impl_box_view_s _ _ _ _ _ _ _ (by assumption) (by first | assumption | omega)) ?_
    refine st rfl rfl (e_idxAK _ t137 t32 rfl rfl rfl (by first | omega | decide)) ?_
    refine stN rfl (e_store1 t32 rfl rfl rfl (by repeat (first | exact look_same | assumption | refine look_ne (by omega) ?_ | refine look_keep (by assumption) (by omega) (by simp; try omega) ?_)) (by simp [shL]; omega)) ?_
    refine stEnd (hK _ [(1, _), (2, _), (4, _), (5, _), (6, _), (10, _)] _ _ rfl ?_)
    clear hK K
    rw [shL_set (Q := Q) (ln := (lnV X Y Z (cellsOf X Y Z s))) (q := μ0) (show d < 3 by omega)]
    refine W.sR [1, 2, 4, 5, 6, 10, 21, 22, 23] fun K hK => ?_
    refine st rfl rfl (e_move rfl) ?_
    refine st rfl rfl (e_idxAK _ t137 t32 rfl rfl rfl (by first | omega | decide)) ?_
    refine st rfl rfl (e_load1 t32 rfl rfl (by repeat (first | exact look_same | assumption | refine look_ne (by omega) ?_ | refine look_keep (by assumption) (by omega) (by simp; try omega) ?_)) (show _ = some (Value.slice (some ⟨μ0, 0, none⟩) (viewL X Y Z d (cellsOf X Y Z s)).length 1) from shL_at (d := d) (by omega))) ?_
    refine st rfl rfl (e_len t32 rfl) ?_
    refine st rfl rfl (e_move rfl) ?_
    refine stEnd (hK _ [(1, _), (2, _), (4, _), (5, _), (6, _), (10, _), (21, _), (22, _), (23, _)] _ _ rfl ?_)
    clear hK K
    refine W.block ?_
    refine W.ord [23, 1, 2, 4, 5, 6, 10, 21, 22] (ts' := [(23, _)] ++ [(1, _), (2, _), (4, _), (5, _), (6, _), (10, _), (21, _), (22, _)]) rfl ?_
    refine W.loopC [(23, _)] [μ0] (fun κ V G1 μ1 => ∃ i : Nat, V = [(23, .int .i64 (i : Nat))] ∧ κ = (viewL X Y Z d (cellsOf X Y Z s)).length - i ∧ (i ≤ (viewL X Y Z d (cellsOf X Y Z s)).length) ∧ (G1 μ0 = some (.cells false (ints (onesN (viewL X Y Z d (cellsOf X Y Z s)) i))))) _ ⟨0, rfl, rfl, (by first | omega | assumption | rfl | simp_all), (by rw [onesN_zero]; exact (by repeat (first | exact look_same | assumption | refine look_ne (by omega) ?_ | refine look_keep (by assumption) (by omega) (by simp; try omega) ?_)))⟩ fun κ V G1 μ1 hinv hμ1 hkeep1 hfr1 => ?_
    obtain ⟨i, rfl, rfl, hi, hw⟩ := hinv
    refine W.sR [1, 2, 4, 5, 6, 10, 21, 22, 23, 24] fun K hK => ?_
    refine st rfl rfl (e_lss rfl rfl) ?_
    refine stB (fun hb2 => ?_) (fun hb2 => ?_)
    ·
      try simp only [decide_eq_true_eq, decide_eq_false_iff_not, Bool.not_eq_true', Bool.not_eq_false', Bool.not_eq_true, Bool.not_eq_false] at hb2
      refine stEnd (hK _ [(1, _), (2, _), (4, _), (5, _), (6, _), (10, _), (21, _), (22, _), (23, _), (24, _)] _ _ rfl ?_)
      clear hK K
      refine W.seq ?_
      refine W.condT rfl ?_
      refine W.skip ?_
      refine thenN ?_
      refine W.seq ?_
      refine W.block ?_
      refine W.sR [1, 2, 4, 5, 6, 7, 8, 10, 21, 22, 23] fun K hK => ?_
      refine st rfl rfl (e_move rfl) ?_
      refine st rfl rfl (e_idxSK _ t32 t3 rfl rfl rfl (by first | omega | decide)) ?_
      refine st rfl rfl (e_load1 t3 rfl rfl (by repeat (first | exact look_same | assumption | refine look_ne (by omega) ?_ | refine look_keep (by assumption) (by omega) (by simp; try omega) ?_)) (ints_at (by rw [onesN_length]; omega))) ?_
      refine st rfl rfl (e_assign rfl) ?_
      refine st rfl rfl (e_assign rfl) ?_
      refine stEnd (hK _ [(1, _), (2, _), (4, _), (5, _), (6, _), (7, _), (8, _), (10, _), (21, _), (22, _), (23, _)] _ _ rfl ?_)
      clear hK K
      refine W.rR [1, 2, 4, 5, 6, 10, 21, 22, 23] fun K hK => ?_
      refine st rfl rfl (e_move rfl) ?_
      refine st rfl rfl (e_idxAK _ t137 t32 rfl rfl rfl (by first | omega | decide)) ?_
      refine st rfl rfl (e_load1 t32 rfl rfl (by repeat (first | exact look_same | assumption | refine look_ne (by omega) ?_ | refine look_keep (by assumption) (by omega) (by simp; try omega) ?_)) (show _ = some (Value.slice (some ⟨μ0, 0, none⟩) (viewL X Y Z d (cellsOf X Y Z s)).length 1) from shL_at (d := d) (by omega))) ?_
      refine st rfl rfl (e_move rfl) ?_
      refine st rfl rfl (e_move rfl) ?_
      refine st rfl rfl (e_min2 rfl rfl) ?_
      refine st rfl rfl (e_idxSK _ t32 t3 rfl rfl rfl (by first | omega | decide)) ?_
      refine stN rfl (e_store1 t3 rfl rfl rfl (by repeat (first | exact look_same | assumption | refine look_ne (by omega) ?_ | refine look_keep (by assumption) (by omega) (by simp; try omega) ?_)) (by rw [ints_length, onesN_length]; omega)) ?_
      refine stEnd (hK _ [(1, _), (2, _), (4, _), (5, _), (6, _), (10, _), (21, _), (22, _), (23, _)] _ _ rfl ?_)
      clear hK K
      refine blockN ?_
      refine thenN ?_
      refine W.rR [23, 1, 2, 4, 5, 6, 10, 21, 22] fun K hK => ?_
      refine st rfl rfl (e_add rfl rfl (inB _ (by omega))) ?_
      refine st rfl rfl (e_move rfl) ?_
      refine stEnd (hK _ [(23, _), (1, _), (2, _), (4, _), (5, _), (6, _), (10, _), (21, _), (22, _)] _ _ rfl ?_)
      clear hK K
      exact roundN (V' := [(23, _)]) [23, 1, 2, 4, 5, 6, 10, 21, 22] rfl (by omega) (by repeat (first | exact Keeps.refl _ _ _ | assumption | refine Keeps.trans ?_ (by assumption) (by omega) (by simp; try omega) | refine Keeps.set ?_ (by first | exact Or.inl (by omega) | (simp; done) | (simp; omega)) | refine Keeps.del ?_ (by first | exact Or.inl (by omega) | (simp; done) | (simp; omega)))) _ (by omega) ⟨i + 1, rfl, rfl, (by first | omega | assumption | simp_all), (look_same.trans (congrArg some (congrArg (Blk.cells false) (onesN_set (by omega)))))⟩
    ·
      try simp only [decide_eq_true_eq, decide_eq_false_iff_not, Bool.not_eq_true', Bool.not_eq_false', Bool.not_eq_true, Bool.not_eq_false] at hb2
      refine stEnd (hK _ [(1, _), (2, _), (4, _), (5, _), (6, _), (10, _), (21, _), (22, _), (23, _), (24, _)] _ _ rfl ?_)
      clear hK K
      refine W.seq ?_
      refine W.condF rfl ?_
      refine W.exit ?_
      refine thenE ?_
      refine thenE ?_
      refine blockX ?_
      refine blockN ?_
      refine thenN ?_
      refine W.rR [10, 1, 2, 4, 5] fun K hK => ?_
      refine st rfl rfl (e_add rfl rfl (inB _ (by omega))) ?_
      refine st rfl rfl (e_move rfl) ?_
      refine stEnd (hK _ [(10, _), (1, _), (2, _), (4, _), (5, _)] _ _ rfl ?_)
      clear hK K
      exact roundN (V' := [(10, _)]) [10, 1, 2, 4, 5] rfl (by omega) (by repeat (first | exact Keeps.refl _ _ _ | assumption | refine Keeps.trans ?_ (by assumption) (by omega) (by simp; try omega) | refine Keeps.set ?_ (by first | exact Or.inl (by omega) | (simp; done) | (simp; omega)) | refine Keeps.del ?_ (by first | exact Or.inl (by omega) | (simp; done) | (simp; omega)))) _ (by omega) ⟨d + 1, upd Q d μ0, rfl, rfl, (by first | omega | assumption | simp_all), (by repeat (first | exact look_same | assumption | refine look_ne (by omega) ?_ | refine look_keep (by assumption) (by omega) (by simp; try omega) ?_)), (fun k hk => by
        by_cases e : k = d
        · subst e; rw [upd_same, ← onesN_all _ (show i = _ by omega)]; exact ⟨by omega, hw⟩
        · rw [upd_ne e]; obtain ⟨h1, h2⟩ := hQ k (by omega); exact ⟨by omega, (by repeat (first | exact look_same | assumption | refine look_ne (by omega) ?_ | refine look_keep (by assumption) (by omega) (by simp; try omega) ?_))⟩), (fun j k hjk hk => by
        rw [upd_ne (show j ≠ d by omega)]
        by_cases e : k = d
        · subst e; rw [upd_same]; have := (hQ j (by omega)).1; omega
        · rw [upd_ne e]; exact hD j k hjk (by omega))⟩
  ·
    try simp only [decide_eq_true_eq, decide_eq_false_iff_not, Bool.not_eq_true', Bool.not_eq_false', Bool.not_eq_true, Bool.not_eq_false] at hb1
    refine stEnd (hK _ [(1, _), (2, _), (4, _), (5, _), (10, _), (11, _)] _ _ rfl ?_)
    clear hK K
    refine W.seq ?_
    refine W.condF rfl ?_
    refine W.exit ?_
    refine thenE ?_
    refine thenE ?_
    refine blockX ?_
    refine thenN ?_
    obtain rfl : d = 3 := by omega
    have hQ0 := hQ 0 (by omega)
    have hQ1 := hQ 1 (by omega)
    have hQ2 := hQ 2 (by omega)
    have hd01 := hD 0 1 (by omega) (by omega)
    have hd02 := hD 0 2 (by omega) (by omega)
    have hd12 := hD 1 2 (by omega) (by omega)
    obtain ⟨hQ0, hg0⟩ := hQ0
    obtain ⟨hQ1, hg1⟩ := hQ1
    obtain ⟨hQ2, hg2⟩ := hQ2
    refine W.sR [4] fun K hK => ?_
    refine st rfl rfl (e_idxAK (0) t75 t3 rfl rfl (by first | rfl | omega) (by first | omega | decide)) ?_
    refine st rfl rfl (e_load1 t3 rfl rfl (by repeat (first | exact look_same | assumption | refine look_ne (by omega) ?_ | refine look_keep (by assumption) (by omega) (by simp; try omega) ?_)) (by first | rfl | exact tri_getL (by omega))) ?_
    refine st rfl rfl (e_idxAK (1) t75 t3 rfl rfl (by first | rfl | omega) (by first | omega | decide)) ?_
    refine st rfl rfl (e_load1 t3 rfl rfl (by repeat (first | exact look_same | assumption | refine look_ne (by omega) ?_ | refine look_keep (by assumption) (by omega) (by simp; try omega) ?_)) (by first | rfl | exact tri_getL (by omega))) ?_
    refine st rfl rfl (e_idxAK (2) t75 t3 rfl rfl (by first | rfl | omega) (by first | omega | decide)) ?_
    refine st rfl rfl (e_load1 t3 rfl rfl (by repeat (first | exact look_same | assumption | refine look_ne (by omega) ?_ | refine look_keep (by assumption) (by omega) (by simp; try omega) ?_)) (by first | rfl | exact tri_getL (by omega))) ?_
    refine st rfl rfl (e_idxAK (2) t137 t32 rfl rfl (by first | rfl | omega) (by first | omega | decide)) ?_
    refine st rfl rfl (e_load1 t32 rfl rfl (by repeat (first | exact look_same | assumption | refine look_ne (by omega) ?_ | refine look_keep (by assumption) (by omega) (by simp; try omega) ?_)) (show _ = some (Value.slice (some ⟨Q 2, 0, none⟩) (viewL X Y Z 2 (cellsOf X Y Z s)).length 1) from shL_get (k := 2) (d := 3) (by omega) (by omega))) ?_
    refine st rfl rfl (e_idxAK (1) t137 t32 rfl rfl (by first | rfl | omega) (by first | omega | decide)) ?_
    refine st rfl rfl (e_load1 t32 rfl rfl (by repeat (first | exact look_same | assumption | refine look_ne (by omega) ?_ | refine look_keep (by assumption) (by omega) (by simp; try omega) ?_)) (show _ = some (Value.slice (some ⟨Q 1, 0, none⟩) (viewL X Y Z 1 (cellsOf X Y Z s)).length 1) from shL_get (k := 1) (d := 3) (by omega) (by omega))) ?_
    refine st rfl rfl (e_idxAK (0) t137 t32 rfl rfl (by first | rfl | omega) (by first | omega | decide)) ?_
    refine st rfl rfl (e_load1 t32 rfl rfl (by repeat (first | exact look_same | assumption | refine look_ne (by omega) ?_ | refine look_keep (by assumption) (by omega) (by simp; try omega) ?_)) (show _ = some (Value.slice (some ⟨Q 0, 0, none⟩) (viewL X Y Z 0 (cellsOf X Y Z s)).length 1) from shL_get (k := 0) (d := 3) (by omega) (by omega))) ?_
    refine st rfl rfl (e_build rfl rfl (bld38_0_1_2_3_4_5 _ _ _ _ _ _ rfl rfl rfl rfl rfl rfl)) ?_
    refine stN rfl (e_storeA t38 rfl rfl (by repeat (first | exact look_same | assumption | refine look_ne (by omega) ?_ | refine look_keep (by assumption) (by omega) (by simp; try omega) ?_)) rfl rfl rfl (by decide)) ?_
    refine stEnd (hK _ [(4, _)] _ _ rfl ?_)
    clear hK K
    refine W.ret ?_
    refine ⟨.inr rfl, Ends.v3 (Q 2) (Q 1) (Q 0) (by omega) (by repeat (first | exact self_old | assumption | refine set_old ?_ (by omega) | refine keep_old (by assumption) ?_ (by omega) (by simp; try omega))) hfresh (by repeat (first | exact look_same | assumption | refine look_ne (by omega) ?_ | refine look_keep (by assumption) (by omega) (by simp; try omega) ?_)) (by repeat (first | exact look_same | assumption | refine look_ne (by omega) ?_ | refine look_keep (by assumption) (by omega) (by simp; try omega) ?_)) (by repeat (first | exact look_same | assumption | refine look_ne (by omega) ?_ | refine look_keep (by assumption) (by omega) (by simp; try omega) ?_)) ⟨ints_plain _, ints_plain _, ints_plain _⟩ (by simp [ltT, ltA, ltC, ltV]; try omega) (res1 (resC t38 rfl rfl (by repeat (first | exact look_same | assumption | refine look_ne (by omega) ?_ | refine look_keep (by assumption) (by omega) (by simp; try omega) ?_)) rfl rfl) rfl) ?_ ?_⟩
    · exact ⟨rfl, rfl, rfl⟩
    · simp [renT, renV, renC, renA, nm0, nm1, nm2, pick3, onesL_length]
theorem impl_CleanShadow_ok_s (X Y Z : Int) (b0 b1 b2 : Nat) (r0 r1 r2 : Bool) (x0 x1 x2 : List Int) (H : Heap) (n : Nat) (hb0 : H b0 = some (.cells r0 (ints x0))) (hb1 : H b1 = some (.cells r1 (ints x1))) (hb2 : H b2 = some (.cells r2 (ints x2))) (hl0 : x0.length ≤ 1048576) (hl1 : x1.length ≤ 1048576) (hl2 : x2.length ≤ 1048576) (hok : shadB X Y Z x0 x1 x2 = true) : Fn Try.prog 38 [.agg #[.int .i64 X, .int .i64 Y, .int .i64 Z, .slice (some ⟨b0, 0, none⟩) x0.length 1, .slice (some ⟨b1, 0, none⟩) x1.length 1, .slice (some ⟨b2, 0, none⟩) x2.length 1]] H n (.tuple #[.agg #[.int .i64 X, .int .i64 Y, .int .i64 Z, .slice (some ⟨n, 0, none⟩) (onesL (viewL X Y Z 2 (alC X Y Z x0 x1 x2))).length 1, .slice (some ⟨n + 1, 0, none⟩) (onesL (viewL X Y Z 1 (alC X Y Z x0 x1 x2))).length 1, .slice (some ⟨n + 1 + 1, 0, none⟩) (onesL (viewL X Y Z 0 (alC X Y Z x0 x1 x2))).length 1], .bool true]) (((H.set n (.cells false (ints (onesL (viewL X Y Z 2 (alC X Y Z x0 x1 x2)))))).set (n + 1) (.cells false (ints (onesL (viewL X Y Z 1 (alC X Y Z x0 x1 x2)))))).set (n + 1 + 1) (.cells false (ints (onesL (viewL X Y Z 0 (alC X Y Z x0 x1 x2)))))) (n + 1 + 1 + 1) := by
  refine Fn.intro' Try.func38 rfl (by kernel_rfl) Try.ntmps38 (by simp) (by omega) fun hfresh => ?_
  have lt_hb0 := lt_fresh hfresh hb0
  have lt_hb1 := lt_fresh hfresh hb1
  have lt_hb2 := lt_fresh hfresh hb2
  have hk := shOk hok
  have hX := hk.box
  have hal := alC_valid (x0 := x0) (x1 := x1) (x2 := x2) hX
  have hall := hal.len_vol
  have hvl := vol_le hX
  show W _ _ _ ⟨[(0, _)], _, _⟩ _
  refine W.sR [1, 2] fun K hK => ?_
  refine st rfl rfl (e_boxA rfl) ?_
  refine st rfl rfl (e_alloc t38 rfl) ?_
  refine st rfl rfl (e_assign rfl) ?_
  refine stEnd (hK _ [(1, _), (2, _)] _ _ rfl ?_)
  clear hK K
  refine W.seq ?_
  refine W.sR [1, 2, 6] fun K hK => ?_
  refine st rfl rfl (e_loadA t38 rfl rfl (by repeat (first | exact look_same | assumption | refine look_ne (by omega) ?_)) rfl rfl) ?_
  refine stC rfl rfl rfl (impl_IsShadow_s _ _ _ _ _ _ _ _ _ _ _ _ _ _ (by repeat (first | exact look_same | assumption | refine look_ne (by omega) ?_)) (by repeat (first | exact look_same | assumption | refine look_ne (by omega) ?_)) (by repeat (first | exact look_same | assumption | refine look_ne (by omega) ?_)) (by omega) (by omega) (by omega)) ?_
  rw [hok]
  refine st rfl rfl (e_not rfl) ?_
  refine stEnd (hK _ [(1, _), (2, _), (6, _)] _ _ rfl ?_)
  clear hK K
  refine W.condF rfl ?_
  refine W.skip ?_
  refine thenN ?_
  refine W.sD [2, 3] [0, 1, 0, 7, 15, 31, 63] (by kernel_rfl) (by kernel_rfl) fun K hK => ?_
  refine dL rfl rfl rfl (by omega) (accB_ok rfl) (e_loadA t38 rfl rfl (by repeat (first | exact look_same | assumption | refine look_ne (by omega) ?_)) rfl rfl) ?_
  refine dC rfl rfl rfl rfl (impl_Shadow_box_s _ _ _ _ _ _ _ _ ) (accB_ok rfl) ?_
  refine dL rfl rfl rfl (by omega) (by repeat (first | exact trivial | refine And.intro (Or.inl rfl) ?_ | refine And.intro (Or.inr trivial) ?_ | refine And.intro (Or.inr (And.intro (Or.inl (by omega)) (by first | (simp; done) | (simp; omega)))) ?_ | refine And.intro (Or.inr (And.intro (Or.inr (by omega)) (by first | (simp; done) | (simp; omega)))) ?_ | refine And.intro (Or.inr (by simp [compat]; try omega)) ?_)) (e_loadA t38 rfl rfl (by repeat (first | exact look_same | assumption | refine look_ne (by omega) ?_)) rfl rfl) ?_
  refine dC rfl rfl rfl rfl (impl_Shadow_allowed_s _ _ _ _ _ _ _ _ _ _ _ _ _ _ (by repeat (first | exact look_same | assumption | refine look_ne (by omega) ?_ | refine look_hide (by omega) (by first | exact List.not_mem_nil | (simp [hidden, Nat.testBit]; done) | (simp [hidden, Nat.testBit]; omega)) ?_)) (by repeat (first | exact look_same | assumption | refine look_ne (by omega) ?_ | refine look_hide (by omega) (by first | exact List.not_mem_nil | (simp [hidden, Nat.testBit]; done) | (simp [hidden, Nat.testBit]; omega)) ?_)) (by repeat (first | exact look_same | assumption | refine look_ne (by omega) ?_ | refine look_hide (by omega) (by first | exact List.not_mem_nil | (simp [hidden, Nat.testBit]; done) | (simp [hidden, Nat.testBit]; omega)) ?_)) (by assumption)) (accB_ok rfl) ?_
  refine dC3 rfl rfl rfl rfl (impl_box_shadow_s _ _ _ _ _ _ (by assumption)) (accB_ok rfl) (by first | exact ⟨List.not_mem_nil, List.not_mem_nil, List.not_mem_nil⟩ | (simp [hidden, Nat.testBit]; done) | (simp [hidden, Nat.testBit]; omega)) ?_
  rw [alC_cells hX]
  refine dSt rfl rfl (e_storeA t38 rfl rfl (by repeat (first | exact look_same | assumption | refine look_ne (by omega) ?_ | refine look_hide (by omega) (by first | exact List.not_mem_nil | (simp [hidden, Nat.testBit]; done) | (simp [hidden, Nat.testBit]; omega)) ?_)) rfl rfl rfl (by decide)) (by omega) (by first | exact List.not_mem_nil | (simp [hidden, Nat.testBit]; done) | (simp [hidden, Nat.testBit]; omega)) (accB_ok rfl) ?_
  refine dP rfl rfl rfl (e_assign rfl) ?_
  refine dEnd (hK _ [(2, _), (3, _)] _ _ rfl ?_)
  clear hK K
  refine W.ret ?_
  refine ⟨.inr rfl, Ends.v3 (n + 1 + 1) (n + 1 + 1 + 1) (n + 1 + 1 + 1 + 1) (by omega) (by repeat (first | exact self_old | assumption | refine set_old ?_ (by omega))) hfresh (by repeat (first | exact look_same | assumption | refine look_ne (by omega) ?_)) (by repeat (first | exact look_same | assumption | refine look_ne (by omega) ?_)) (by repeat (first | exact look_same | assumption | refine look_ne (by omega) ?_)) ⟨ints_plain _, ints_plain _, ints_plain _⟩ (by simp [ltT, ltA, ltC, ltV]; try omega) (res2 (resC t38 rfl rfl (by repeat (first | exact look_same | assumption | refine look_ne (by omega) ?_)) rfl rfl) (resT rfl) rfl rfl) ?_ ?_⟩
  · exact ⟨rfl, rfl, rfl⟩
  · simp [renT, renV, renC, renA, nm0, nm1, nm2, pick3, onesL_length]
end Go.Sep.Walks
