/- Part of a proof: qdosw1 -/
import Derived.Test.Ytkfhblkjllbejaaqdosw0
namespace Go.Sep.Walks
open Go Go.Sep Go.Proofs
set_option linter.unusedVariables false
set_option linter.unusedSimpArgs false
theorem impl_box_has_s (X Y Z : Int) (c : C) (H : Heap) (n : Nat) (hX : (1 ≤ X ∧ X ≤ 4) ∧ (1 ≤ Y ∧ Y ≤ 4) ∧ (1 ≤ Z ∧ Z ≤ 4)) : Fn Try.prog 67 [.agg #[.int .i64 X, .int .i64 Y, .int .i64 Z], .agg #[.int .i64 c.1, .int .i64 c.2.1, .int .i64 c.2.2]] H n (.bool (inBox X Y Z c)) (H) (n) := by
  refine Fn.intro' Try.func67 rfl (by kernel_rfl) Try.ntmps67 (by simp) (by omega) fun hfresh => ?_
  show W _ _ _ ⟨[(0, _), (1, _)], _, _⟩ _
  refine W.sR [2, 3] fun K hK => ?_
  refine st rfl rfl (e_boxA rfl) ?_
  refine st rfl rfl (e_boxA rfl) ?_
  refine st rfl rfl (e_assign rfl) ?_
  refine stEnd (hK _ [(2, _), (3, _)] _ _ rfl ?_)
  clear hK K
  refine W.sR [4] fun K hK => ?_
  refine st rfl rfl (e_idxAK (0) t62 t3 rfl rfl (by first | rfl | omega) (by first | omega | decide)) ?_
  refine st rfl rfl (e_load1 t3 rfl rfl (by repeat (first | exact look_same | assumption | refine look_ne (by omega) ?_)) (by first | rfl | exact tri_getL (by omega))) ?_
  refine st rfl rfl (e_idxAK (0) t63 t3 rfl rfl (by first | rfl | omega) (by first | omega | decide)) ?_
  refine st rfl rfl (e_load1 t3 rfl rfl (by repeat (first | exact look_same | assumption | refine look_ne (by omega) ?_)) (by first | rfl | exact tri_getL (by omega))) ?_
  refine st rfl rfl (e_sub rfl rfl (inB _ (by omega))) ?_
  refine stC rfl rfl rfl (impl_within_s _ _ _ _ _ ) ?_
  refine st rfl rfl (e_move rfl) ?_
  refine stB (fun hb1 => ?_) (fun hb1 => ?_)
  ·
    try simp only [decide_eq_true_eq, decide_eq_false_iff_not, Bool.not_eq_true', Bool.not_eq_false', Bool.not_eq_true, Bool.not_eq_false] at hb1
    refine st rfl rfl (e_idxAK (1) t62 t3 rfl rfl (by first | rfl | omega) (by first | omega | decide)) ?_
    refine st rfl rfl (e_load1 t3 rfl rfl (by repeat (first | exact look_same | assumption | refine look_ne (by omega) ?_)) (by first | rfl | exact tri_getL (by omega))) ?_
    refine st rfl rfl (e_idxAK (1) t63 t3 rfl rfl (by first | rfl | omega) (by first | omega | decide)) ?_
    refine st rfl rfl (e_load1 t3 rfl rfl (by repeat (first | exact look_same | assumption | refine look_ne (by omega) ?_)) (by first | rfl | exact tri_getL (by omega))) ?_
    refine st rfl rfl (e_sub rfl rfl (inB _ (by omega))) ?_
    refine stC rfl rfl rfl (impl_within_s _ _ _ _ _ ) ?_
    refine st rfl rfl (e_pickT rfl rfl) ?_
    refine st rfl rfl (e_move rfl) ?_
    refine stB (fun hb2 => ?_) (fun hb2 => ?_)
    ·
      try simp only [decide_eq_true_eq, decide_eq_false_iff_not, Bool.not_eq_true', Bool.not_eq_false', Bool.not_eq_true, Bool.not_eq_false] at hb2
      refine st rfl rfl (e_idxAK (2) t62 t3 rfl rfl (by first | rfl | omega) (by first | omega | decide)) ?_
      refine st rfl rfl (e_load1 t3 rfl rfl (by repeat (first | exact look_same | assumption | refine look_ne (by omega) ?_)) (by first | rfl | exact tri_getL (by omega))) ?_
      refine st rfl rfl (e_idxAK (2) t63 t3 rfl rfl (by first | rfl | omega) (by first | omega | decide)) ?_
      refine st rfl rfl (e_load1 t3 rfl rfl (by repeat (first | exact look_same | assumption | refine look_ne (by omega) ?_)) (by first | rfl | exact tri_getL (by omega))) ?_
      refine st rfl rfl (e_sub rfl rfl (inB _ (by omega))) ?_
      refine stC rfl rfl rfl (impl_within_s _ _ _ _ _ ) ?_
      refine st rfl rfl (e_pickT rfl rfl) ?_
      refine st rfl rfl (e_assign rfl) ?_
      refine stEnd (hK _ [(4, _)] _ _ rfl ?_)
      clear hK K
      refine W.ret ?_
      refine ⟨.inr rfl, Ends.v0 (by repeat (first | exact self_old | assumption | refine set_old ?_ (by omega))) hfresh (by first | rfl | (simp [ltT, ltA, ltC, ltV]; try omega)) (res1 (resT rfl) rfl) ?_⟩
      simp_all [inBox]
    ·
      try simp only [decide_eq_true_eq, decide_eq_false_iff_not, Bool.not_eq_true', Bool.not_eq_false', Bool.not_eq_true, Bool.not_eq_false] at hb2
      refine stS rfl rfl ?_
      refine stS rfl rfl ?_
      refine stS rfl rfl ?_
      refine stS rfl rfl ?_
      refine stS rfl rfl ?_
      refine stS rfl rfl ?_
      refine st rfl rfl (e_pickF rfl rfl) ?_
      refine st rfl rfl (e_assign rfl) ?_
      refine stEnd (hK _ [(4, _)] _ _ rfl ?_)
      clear hK K
      refine W.ret ?_
      refine ⟨.inr rfl, Ends.v0 (by repeat (first | exact self_old | assumption | refine set_old ?_ (by omega))) hfresh (by first | rfl | (simp [ltT, ltA, ltC, ltV]; try omega)) (res1 (resT rfl) rfl) ?_⟩
      simp_all [inBox]
  ·
    try simp only [decide_eq_true_eq, decide_eq_false_iff_not, Bool.not_eq_true', Bool.not_eq_false', Bool.not_eq_true, Bool.not_eq_false] at hb1
    refine stS rfl rfl ?_
    refine stS rfl rfl ?_
    refine stS rfl rfl ?_
    refine stS rfl rfl ?_
    refine stS rfl rfl ?_
    refine stS rfl rfl ?_
    refine st rfl rfl (e_pickF rfl rfl) ?_
    refine st rfl rfl (e_move rfl) ?_
    refine stS rfl rfl ?_
    refine stS rfl rfl ?_
    refine stS rfl rfl ?_
    refine stS rfl rfl ?_
    refine stS rfl rfl ?_
    refine stS rfl rfl ?_
    refine st rfl rfl (e_pickF rfl rfl) ?_
    refine st rfl rfl (e_assign rfl) ?_
    refine stEnd (hK _ [(4, _)] _ _ rfl ?_)
    clear hK K
    refine W.ret ?_
    refine ⟨.inr rfl, Ends.v0 (by repeat (first | exact self_old | assumption | refine set_old ?_ (by omega))) hfresh (by first | rfl | (simp [ltT, ltA, ltC, ltV]; try omega)) (res1 (resT rfl) rfl) ?_⟩
    simp_all [inBox]
theorem cmp_isNaNint_s (a : Int) (H : Heap) (n : Nat) : Fn Try.prog 164 [.int .i64 a] H n (.bool false) (H) (n) := by
  refine Fn.intro' Try.func164 rfl (by kernel_rfl) Try.ntmps164 (by simp) (by omega) fun hfresh => ?_
  show W _ _ _ ⟨[(0, _)], _, _⟩ _
  refine W.sR [0] fun K hK => ?_
  refine st rfl rfl (e_assign rfl) ?_
  refine stEnd (hK _ [(0, _)] _ _ rfl ?_)
  clear hK K
  refine W.sR [2] fun K hK => ?_
  refine st rfl rfl (e_move rfl) ?_
  refine st rfl rfl (e_move rfl) ?_
  refine st rfl rfl (e_neq rfl rfl) ?_
  refine st rfl rfl (e_assign rfl) ?_
  refine stEnd (hK _ [(2, _)] _ _ rfl ?_)
  clear hK K
  refine W.ret ?_
  refine ⟨.inr rfl, Ends.v0 (by repeat (first | exact self_old | assumption | refine set_old ?_ (by omega))) hfresh (by first | rfl | (simp [ltT, ltA, ltC, ltV]; try omega)) (res1 (resT rfl) rfl) ?_⟩
  simp
theorem cmp_Compareint_s (a b : Int) (H : Heap) (n : Nat) : Fn Try.prog 160 [.int .i64 a, .int .i64 b] H n (.int .i64 (cmpI a b)) (H) (n) := by
  refine Fn.intro' Try.func160 rfl (by kernel_rfl) Try.ntmps160 (by simp) (by omega) fun hfresh => ?_
  show W _ _ _ ⟨[(0, _), (1, _)], _, _⟩ _
  refine W.sR [0, 1] fun K hK => ?_
  refine st rfl rfl (e_assign rfl) ?_
  refine stEnd (hK _ [(0, _), (1, _)] _ _ rfl ?_)
  clear hK K
  refine W.sR [0, 1, 5] fun K hK => ?_
  refine st rfl rfl (e_move rfl) ?_
  refine stC rfl rfl rfl (cmp_isNaNint_s _ _ _ ) ?_
  refine st rfl rfl (e_assign rfl) ?_
  refine stEnd (hK _ [(0, _), (1, _), (5, _)] _ _ rfl ?_)
  clear hK K
  refine W.sR [0, 1, 5, 6] fun K hK => ?_
  refine st rfl rfl (e_move rfl) ?_
  refine stC rfl rfl rfl (cmp_isNaNint_s _ _ _ ) ?_
  refine st rfl rfl (e_assign rfl) ?_
  refine stEnd (hK _ [(0, _), (1, _), (5, _), (6, _)] _ _ rfl ?_)
  clear hK K
  refine W.seq ?_
  refine W.sR [0, 1, 6, 11] fun K hK => ?_
  refine st rfl rfl (e_move rfl) ?_
  refine stEnd (hK _ [(0, _), (1, _), (6, _), (11, _)] _ _ rfl ?_)
  clear hK K
  refine W.condF rfl ?_
  refine W.skip ?_
  refine thenN ?_
  refine W.seq ?_
  refine W.sR [0, 1, 13] fun K hK => ?_
  refine st rfl rfl (e_move rfl) ?_
  refine stEnd (hK _ [(0, _), (1, _), (13, _)] _ _ rfl ?_)
  clear hK K
  refine W.condF rfl ?_
  refine W.skip ?_
  refine thenN ?_
  refine W.seq ?_
  refine W.sR [0, 1, 16] fun K hK => ?_
  refine st rfl rfl (e_move rfl) ?_
  refine st rfl rfl (e_move rfl) ?_
  refine st rfl rfl (e_lss rfl rfl) ?_
  refine stB (fun hb1 => ?_) (fun hb1 => ?_)
  ·
    try simp only [decide_eq_true_eq, decide_eq_false_iff_not, Bool.not_eq_true', Bool.not_eq_false', Bool.not_eq_true, Bool.not_eq_false] at hb1
    refine stEnd (hK _ [(0, _), (1, _), (16, _)] _ _ rfl ?_)
    clear hK K
    refine W.condT rfl ?_
    refine W.sR [4] fun K hK => ?_
    refine st rfl rfl (e_assign rfl) ?_
    refine stEnd (hK _ [(4, _)] _ _ rfl ?_)
    clear hK K
    refine W.ret ?_
    refine thenR ?_
    refine ⟨.inr rfl, Ends.v0 (by repeat (first | exact self_old | assumption | refine set_old ?_ (by omega))) hfresh (by first | rfl | (simp [ltT, ltA, ltC, ltV]; try omega)) (res1 (resT rfl) rfl) ?_⟩
    simp only [cmpI]; congr 1; (repeat' split) <;> omega
  ·
    try simp only [decide_eq_true_eq, decide_eq_false_iff_not, Bool.not_eq_true', Bool.not_eq_false', Bool.not_eq_true, Bool.not_eq_false] at hb1
    refine stEnd (hK _ [(0, _), (1, _), (16, _)] _ _ rfl ?_)
    clear hK K
    refine W.condF rfl ?_
    refine W.skip ?_
    refine thenN ?_
    refine W.seq ?_
    refine W.sR [19] fun K hK => ?_
    refine st rfl rfl (e_move rfl) ?_
    refine st rfl rfl (e_move rfl) ?_
    refine st rfl rfl (e_gtr rfl rfl) ?_
    refine stB (fun hb2 => ?_) (fun hb2 => ?_)
    ·
      try simp only [decide_eq_true_eq, decide_eq_false_iff_not, Bool.not_eq_true', Bool.not_eq_false', Bool.not_eq_true, Bool.not_eq_false] at hb2
      refine stEnd (hK _ [(19, _)] _ _ rfl ?_)
      clear hK K
      refine W.condT rfl ?_
      refine W.sR [4] fun K hK => ?_
      refine st rfl rfl (e_assign rfl) ?_
      refine stEnd (hK _ [(4, _)] _ _ rfl ?_)
      clear hK K
      refine W.ret ?_
      refine thenR ?_
      refine ⟨.inr rfl, Ends.v0 (by repeat (first | exact self_old | assumption | refine set_old ?_ (by omega))) hfresh (by first | rfl | (simp [ltT, ltA, ltC, ltV]; try omega)) (res1 (resT rfl) rfl) ?_⟩
      simp only [cmpI]; congr 1; (repeat' split) <;> omega
    ·
      try simp only [decide_eq_true_eq, decide_eq_false_iff_not, Bool.not_eq_true', Bool.not_eq_false', Bool.not_eq_true, Bool.not_eq_false] at hb2
      refine stEnd (hK _ [(19, _)] _ _ rfl ?_)
      clear hK K
      refine W.condF rfl ?_
      refine W.skip ?_
      refine thenN ?_
      refine W.sR [4] fun K hK => ?_
      refine st rfl rfl (e_assign rfl) ?_
      refine stEnd (hK _ [(4, _)] _ _ rfl ?_)
      clear hK K
      refine W.ret ?_
      refine ⟨.inr rfl, Ends.v0 (by repeat (first | exact self_old | assumption | refine set_old ?_ (by omega))) hfresh (by first | rfl | (simp [ltT, ltA, ltC, ltV]; try omega)) (res1 (resT rfl) rfl) ?_⟩
      simp only [cmpI]; congr 1; (repeat' split) <;> omega
theorem slices_Compareintint_s (b : Nat) (ro : Bool) (xs : List Int) (c : Nat) (ro2 : Bool) (ys : List Int) (H : Heap) (n : Nat) (hb : H b = some (.cells ro (ints xs))) (hc : H c = some (.cells ro2 (ints ys))) (hxs : xs.length ≤ 1048576) (hys : ys.length ≤ 1048576) : Fn Try.prog 152 [.slice (some ⟨b, 0, none⟩) xs.length 1, .slice (some ⟨c, 0, none⟩) ys.length 1] H n (.int .i64 (cmpL xs ys)) (H) (n) := by
  refine Fn.intro' Try.func152 rfl (by kernel_rfl) Try.ntmps152 (by simp) (by omega) fun hfresh => ?_
  have lt_hb := lt_fresh hfresh hb
  have lt_hc := lt_fresh hfresh hc
  show W _ _ _ ⟨[(0, _), (1, _)], _, _⟩ _
  refine W.sR [0, 1] fun K hK => ?_
  refine st rfl rfl (e_assign rfl) ?_
  refine stEnd (hK _ [(0, _), (1, _)] _ _ rfl ?_)
  clear hK K
  refine W.seq ?_
  refine W.sR [0, 1, 9, 10, 11] fun K hK => ?_
  refine st rfl rfl (e_move rfl) ?_
  refine st rfl rfl (e_len t82 rfl) ?_
  refine st rfl rfl (e_move rfl) ?_
  refine stEnd (hK _ [(0, _), (1, _), (9, _), (10, _), (11, _)] _ _ rfl ?_)
  clear hK K
  refine W.block ?_
  refine W.ord [11, 0, 1, 9, 10] (ts' := [(11, _)] ++ [(0, _), (1, _), (9, _), (10, _)]) rfl ?_
  refine W.loopC [(11, _)] [] (fun κ V G μ => ∃ i : Nat, V = [(11, .int .i64 (i : Nat))] ∧ κ = xs.length - i ∧ (i ≤ xs.length ∧ i ≤ ys.length) ∧ (cmpL xs ys = cmpL (xs.drop i) (ys.drop i))) _ ⟨0, rfl, rfl, (by first | omega | assumption | rfl | simp_all), (by first | omega | assumption | rfl | simp_all)⟩ fun κ V G μ hinv hμ hkeep hfr => ?_
  obtain ⟨i, rfl, rfl, hi, hq⟩ := hinv
  refine W.sR [0, 1, 9, 10, 11, 12] fun K hK => ?_
  refine st rfl rfl (e_lss rfl rfl) ?_
  refine stB (fun hb1 => ?_) (fun hb1 => ?_)
  ·
    try simp only [decide_eq_true_eq, decide_eq_false_iff_not, Bool.not_eq_true', Bool.not_eq_false', Bool.not_eq_true, Bool.not_eq_false] at hb1
    refine stEnd (hK _ [(0, _), (1, _), (9, _), (10, _), (11, _), (12, _)] _ _ rfl ?_)
    clear hK K
    refine W.seq ?_
    refine W.condT rfl ?_
    refine W.skip ?_
    refine thenN ?_
    refine W.seq ?_
    refine W.block ?_
    refine W.sR [0, 1, 5, 6, 9, 10, 11] fun K hK => ?_
    refine st rfl rfl (e_move rfl) ?_
    refine st rfl rfl (e_idxSK _ t82 t3 rfl rfl rfl (by first | omega | decide)) ?_
    refine st rfl rfl (e_load1 t3 rfl rfl (by repeat (first | exact look_same | assumption | refine look_ne (by omega) ?_ | refine look_keep (by assumption) (by omega) (by simp; try omega) ?_)) (ints_at (by omega))) ?_
    refine st rfl rfl (e_assign rfl) ?_
    refine st rfl rfl (e_assign rfl) ?_
    refine stEnd (hK _ [(0, _), (1, _), (5, _), (6, _), (9, _), (10, _), (11, _)] _ _ rfl ?_)
    clear hK K
    refine W.seq ?_
    refine W.sR [0, 1, 5, 6, 9, 10, 11, 19] fun K hK => ?_
    refine st rfl rfl (e_move rfl) ?_
    refine st rfl rfl (e_move rfl) ?_
    refine st rfl rfl (e_len t82 rfl) ?_
    refine st rfl rfl (e_geq rfl rfl) ?_
    refine stB (fun hb2 => ?_) (fun hb2 => ?_)
    ·
      try simp only [decide_eq_true_eq, decide_eq_false_iff_not, Bool.not_eq_true', Bool.not_eq_false', Bool.not_eq_true, Bool.not_eq_false] at hb2
      refine stEnd (hK _ [(0, _), (1, _), (5, _), (6, _), (9, _), (10, _), (11, _), (19, _)] _ _ rfl ?_)
      clear hK K
      refine W.condT rfl ?_
      refine W.sR [4] fun K hK => ?_
      refine st rfl rfl (e_assign rfl) ?_
      refine stEnd (hK _ [(4, _)] _ _ rfl ?_)
      clear hK K
      refine W.ret ?_
      refine thenR ?_
      refine blockR ?_
      refine thenR ?_
      refine thenR ?_
      refine blockR ?_
      refine thenR ?_
      refine ⟨.inr rfl, Ends.v0 (by repeat (first | exact self_old | assumption | refine set_old ?_ (by omega) | refine keep_old (by assumption) ?_ (by omega) (by simp; try omega))) hfresh (by first | rfl | (simp [ltT, ltA, ltC, ltV]; try omega)) (res1 (resT rfl) rfl) ?_⟩
      first | rw [cmpL_e1 hq (by omega) (by omega)] | rw [cmpL_e2 hq (by omega) (by omega)] | rw [cmpL_e3 hq (by omega) (by omega)] | rw [hq, cmpL_drop (by omega) (by omega), if_neg (by assumption)]
    ·
      try simp only [decide_eq_true_eq, decide_eq_false_iff_not, Bool.not_eq_true', Bool.not_eq_false', Bool.not_eq_true, Bool.not_eq_false] at hb2
      refine stEnd (hK _ [(0, _), (1, _), (5, _), (6, _), (9, _), (10, _), (11, _), (19, _)] _ _ rfl ?_)
      clear hK K
      refine W.condF rfl ?_
      refine W.skip ?_
      refine thenN ?_
      refine W.sR [0, 1, 6, 7, 9, 10, 11] fun K hK => ?_
      refine st rfl rfl (e_move rfl) ?_
      refine st rfl rfl (e_move rfl) ?_
      refine st rfl rfl (e_idxSK _ t82 t3 rfl rfl rfl (by first | omega | decide)) ?_
      refine st rfl rfl (e_load1 t3 rfl rfl (by repeat (first | exact look_same | assumption | refine look_ne (by omega) ?_ | refine look_keep (by assumption) (by omega) (by simp; try omega) ?_)) (ints_at (by omega))) ?_
      refine st rfl rfl (e_assign rfl) ?_
      refine stEnd (hK _ [(0, _), (1, _), (6, _), (7, _), (9, _), (10, _), (11, _)] _ _ rfl ?_)
      clear hK K
      refine W.sR [0, 1, 8, 9, 10, 11] fun K hK => ?_
      refine st rfl rfl (e_move rfl) ?_
      refine st rfl rfl (e_move rfl) ?_
      refine stC rfl rfl rfl (cmp_Compareint_s _ _ _ _ ) ?_
      refine st rfl rfl (e_assign rfl) ?_
      refine stEnd (hK _ [(0, _), (1, _), (8, _), (9, _), (10, _), (11, _)] _ _ rfl ?_)
      clear hK K
      refine W.sR [0, 1, 8, 9, 10, 11, 28] fun K hK => ?_
      refine st rfl rfl (e_move rfl) ?_
      refine st rfl rfl (e_neq rfl rfl) ?_
      refine stB (fun hb3 => ?_) (fun hb3 => ?_)
      ·
        try simp only [decide_eq_true_eq, decide_eq_false_iff_not, Bool.not_eq_true', Bool.not_eq_false', Bool.not_eq_true, Bool.not_eq_false] at hb3
        refine stEnd (hK _ [(0, _), (1, _), (8, _), (9, _), (10, _), (11, _), (28, _)] _ _ rfl ?_)
        clear hK K
        refine W.condT rfl ?_
        refine W.sR [4] fun K hK => ?_
        refine st rfl rfl (e_move rfl) ?_
        refine st rfl rfl (e_assign rfl) ?_
        refine stEnd (hK _ [(4, _)] _ _ rfl ?_)
        clear hK K
        refine W.ret ?_
        refine blockR ?_
        refine thenR ?_
        refine thenR ?_
        refine blockR ?_
        refine thenR ?_
        refine ⟨.inr rfl, Ends.v0 (by repeat (first | exact self_old | assumption | refine set_old ?_ (by omega) | refine keep_old (by assumption) ?_ (by omega) (by simp; try omega))) hfresh (by first | rfl | (simp [ltT, ltA, ltC, ltV]; try omega)) (res1 (resT rfl) rfl) ?_⟩
        first | rw [cmpL_e1 hq (by omega) (by omega)] | rw [cmpL_e2 hq (by omega) (by omega)] | rw [cmpL_e3 hq (by omega) (by omega)] | rw [hq, cmpL_drop (by omega) (by omega), if_neg (by assumption)]
      ·
        try simp only [decide_eq_true_eq, decide_eq_false_iff_not, Bool.not_eq_true', Bool.not_eq_false', Bool.not_eq_true, Bool.not_eq_false] at hb3
        refine stEnd (hK _ [(0, _), (1, _), (8, _), (9, _), (10, _), (11, _), (28, _)] _ _ rfl ?_)
        clear hK K
        refine W.condF rfl ?_
        refine W.skip ?_
        refine blockN ?_
        refine thenN ?_
        refine W.rR [11, 0, 1, 9, 10] fun K hK => ?_
        refine st rfl rfl (e_add rfl rfl (inB _ (by omega))) ?_
        refine st rfl rfl (e_move rfl) ?_
        refine stEnd (hK _ [(11, _), (0, _), (1, _), (9, _), (10, _)] _ _ rfl ?_)
        clear hK K
        exact roundN (V' := [(11, _)]) [11, 0, 1, 9, 10] rfl (by omega) (by repeat (first | exact Keeps.refl _ _ _ | assumption | refine Keeps.trans ?_ (by assumption) (by omega) (by simp; try omega) | refine Keeps.set ?_ (by first | exact Or.inl (by omega) | (simp; done) | (simp; omega)) | refine Keeps.del ?_ (by first | exact Or.inl (by omega) | (simp; done) | (simp; omega)) | refine Keeps.delO2 ?_ (by omega))) _ (by omega) ⟨i + 1, rfl, rfl, (by first | omega | assumption | simp_all), (by rw [hq, cmpL_drop (by omega) (by omega), if_pos (by assumption)])⟩
  ·
    try simp only [decide_eq_true_eq, decide_eq_false_iff_not, Bool.not_eq_true', Bool.not_eq_false', Bool.not_eq_true, Bool.not_eq_false] at hb1
    refine stEnd (hK _ [(0, _), (1, _), (9, _), (10, _), (11, _), (12, _)] _ _ rfl ?_)
    clear hK K
    refine W.seq ?_
    refine W.condF rfl ?_
    refine W.exit ?_
    refine thenE ?_
    refine thenE ?_
    refine blockX ?_
    refine thenN ?_
    refine W.seq ?_
    refine W.sR [35] fun K hK => ?_
    refine st rfl rfl (e_move rfl) ?_
    refine st rfl rfl (e_len t82 rfl) ?_
    refine st rfl rfl (e_move rfl) ?_
    refine st rfl rfl (e_len t82 rfl) ?_
    refine st rfl rfl (e_lss rfl rfl) ?_
    refine stB (fun hb4 => ?_) (fun hb4 => ?_)
    ·
      try simp only [decide_eq_true_eq, decide_eq_false_iff_not, Bool.not_eq_true', Bool.not_eq_false', Bool.not_eq_true, Bool.not_eq_false] at hb4
      refine stEnd (hK _ [(35, _)] _ _ rfl ?_)
      clear hK K
      refine W.condT rfl ?_
      refine W.sR [4] fun K hK => ?_
      refine st rfl rfl (e_assign rfl) ?_
      refine stEnd (hK _ [(4, _)] _ _ rfl ?_)
      clear hK K
      refine W.ret ?_
      refine thenR ?_
      refine ⟨.inr rfl, Ends.v0 (by repeat (first | exact self_old | assumption | refine set_old ?_ (by omega) | refine keep_old (by assumption) ?_ (by omega) (by simp; try omega))) hfresh (by first | rfl | (simp [ltT, ltA, ltC, ltV]; try omega)) (res1 (resT rfl) rfl) ?_⟩
      first | rw [cmpL_e1 hq (by omega) (by omega)] | rw [cmpL_e2 hq (by omega) (by omega)] | rw [cmpL_e3 hq (by omega) (by omega)] | rw [hq, cmpL_drop (by omega) (by omega), if_neg (by assumption)]
    ·
      try simp only [decide_eq_true_eq, decide_eq_false_iff_not, Bool.not_eq_true', Bool.not_eq_false', Bool.not_eq_true, Bool.not_eq_false] at hb4
      refine stEnd (hK _ [(35, _)] _ _ rfl ?_)
      clear hK K
      refine W.condF rfl ?_
      refine W.skip ?_
      refine thenN ?_
      refine W.sR [4] fun K hK => ?_
      refine st rfl rfl (e_assign rfl) ?_
      refine stEnd (hK _ [(4, _)] _ _ rfl ?_)
      clear hK K
      refine W.ret ?_
      refine ⟨.inr rfl, Ends.v0 (by repeat (first | exact self_old | assumption | refine set_old ?_ (by omega) | refine keep_old (by assumption) ?_ (by omega) (by simp; try omega))) hfresh (by first | rfl | (simp [ltT, ltA, ltC, ltV]; try omega)) (res1 (resT rfl) rfl) ?_⟩
      first | rw [cmpL_e1 hq (by omega) (by omega)] | rw [cmpL_e2 hq (by omega) (by omega)] | rw [cmpL_e3 hq (by omega) (by omega)] | rw [hq, cmpL_drop (by omega) (by omega), if_neg (by assumption)]
theorem impl_compareCells_s (a b : C) (H : Heap) (n : Nat) : Fn Try.prog 109 [.agg #[.int .i64 a.1, .int .i64 a.2.1, .int .i64 a.2.2], .agg #[.int .i64 b.1, .int .i64 b.2.1, .int .i64 b.2.2]] H n (.int .i64 (cmpC a b)) (H) (n) := by
  refine Fn.intro' Try.func109 rfl (by kernel_rfl) Try.ntmps109 (by simp) (by omega) fun hfresh => ?_
  show W _ _ _ ⟨[(0, _), (1, _)], _, _⟩ _
  refine W.sR [2, 3] fun K hK => ?_
  refine st rfl rfl (e_boxA rfl) ?_
  refine st rfl rfl (e_boxA rfl) ?_
  refine st rfl rfl (e_assign rfl) ?_
  refine stEnd (hK _ [(2, _), (3, _)] _ _ rfl ?_)
  clear hK K
  refine W.sD [4] [0, 0, 3, 7] (by kernel_rfl) (by kernel_rfl) fun K hK => ?_
  refine dLs rfl rfl rfl (by omega) (accB_ok rfl) (e_sliceA t62 t3 rfl (by repeat (first | exact look_same | assumption | refine look_ne (by omega) ?_)) (by first | (simp; done) | (simp only [tri, List.length_cons, List.length_nil]; omega))) ?_
  refine dLs rfl rfl rfl (by omega) (accB_ok rfl) (e_sliceA t62 t3 rfl (by repeat (first | exact look_same | assumption | refine look_ne (by omega) ?_)) (by first | (simp; done) | (simp only [tri, List.length_cons, List.length_nil]; omega))) ?_
  refine dC rfl rfl rfl rfl (slices_Compareintint_s _ _ [a.1, a.2.1, a.2.2] _ _ [b.1, b.2.1, b.2.2] _ _ (by repeat (first | exact look_same | assumption | refine look_ne (by omega) ?_ | refine look_hide (by omega) (by first | exact List.not_mem_nil | (simp [hidden, Nat.testBit]; done) | (simp [hidden, Nat.testBit]; omega)) ?_)) (by repeat (first | exact look_same | assumption | refine look_ne (by omega) ?_ | refine look_hide (by omega) (by first | exact List.not_mem_nil | (simp [hidden, Nat.testBit]; done) | (simp [hidden, Nat.testBit]; omega)) ?_)) (by simp) (by simp)) (accB_ok rfl) ?_
  refine dP rfl rfl rfl (e_assign rfl) ?_
  refine dEnd (hK _ [(4, _)] _ _ rfl ?_)
  clear hK K
  refine W.ret ?_
  refine ⟨.inr rfl, Ends.v0 (by repeat (first | exact self_old | assumption | refine set_old ?_ (by omega))) hfresh (by first | rfl | (simp [ltT, ltA, ltC, ltV]; try omega)) (res1 (resT rfl) rfl) ?_⟩
  rfl
theorem impl_IsHeap_s (X Y Z : Int) (b : Nat) (ro : Bool) (cs : List C) (H : Heap) (n : Nat) (hb : H b = some (.cells ro (flat cs))) (hlen : cs.length ≤ 1048576) : Fn Try.prog 49 [.agg #[.int .i64 X, .int .i64 Y, .int .i64 Z, .slice (some ⟨b, 0, none⟩) cs.length 3]] H n (.bool (isHeap X Y Z cs)) (H) (n) := by
  refine Fn.intro' Try.func49 rfl (by kernel_rfl) Try.ntmps49 (by simp) (by omega) fun hfresh => ?_
  have lt_hb := lt_fresh hfresh hb
  show W _ _ _ ⟨[(0, _)], _, _⟩ _
  refine W.sR [1] fun K hK => ?_
  refine st rfl rfl (e_boxA rfl) ?_
  refine st rfl rfl (e_assign rfl) ?_
  refine stEnd (hK _ [(1, _)] _ _ rfl ?_)
  clear hK K
  refine W.seq ?_
  refine W.sR [1, 8] fun K hK => ?_
  refine st rfl rfl (e_loadA t28 rfl rfl (by repeat (first | exact look_same | assumption | refine look_ne (by omega) ?_ | refine look_keep (by assumption) (by omega) (by simp; try omega) ?_)) rfl rfl) ?_
  refine stC rfl rfl rfl (impl_Heap_box_s _ _ _ _ _ _ ) ?_
  refine stC rfl rfl rfl (impl_box_valid_s _ _ _ _ _ ) ?_
  refine st rfl rfl (e_not rfl) ?_
  refine stB (fun hv => ?_) (fun hv => ?_)
  ·
    try simp only [decide_eq_true_eq, decide_eq_false_iff_not, Bool.not_eq_true', Bool.not_eq_false', Bool.not_eq_true, Bool.not_eq_false] at hv
    refine stEnd (hK _ [(1, _), (8, _)] _ _ rfl ?_)
    clear hK K
    refine W.condT rfl ?_
    refine W.sR [2] fun K hK => ?_
    refine st rfl rfl (e_assign rfl) ?_
    refine stEnd (hK _ [(2, _)] _ _ rfl ?_)
    clear hK K
    refine W.ret ?_
    refine thenR ?_
    refine ⟨.inr rfl, Ends.v0 (by repeat (first | exact self_old | assumption | refine set_old ?_ (by omega) | refine keep_old (by assumption) ?_ (by omega) (by simp; try omega))) hfresh (by first | rfl | (simp [ltT, ltA, ltC, ltV]; try omega)) (res1 (resT rfl) rfl) ?_⟩
    first | (rw [isHeap_no1 hv]) | (rw [isHeap_yes hv (fun j hj => hq j (by omega))]) | (rw [isHeap_no2 (i := i) (by omega) (by first | exact okAt_no1 (by assumption) | exact okAt_no2 (by omega) (by assumption) | exact okAt_no3 (by omega) (by assumption))])
  ·
    try simp only [decide_eq_true_eq, decide_eq_false_iff_not, Bool.not_eq_true', Bool.not_eq_false', Bool.not_eq_true, Bool.not_eq_false] at hv
    have hX := sides_bd hv
    refine stEnd (hK _ [(1, _), (8, _)] _ _ rfl ?_)
    clear hK K
    refine W.condF rfl ?_
    refine W.skip ?_
    refine thenN ?_
    refine W.seq ?_
    refine W.sR [1, 10, 11, 12] fun K hK => ?_
    refine st rfl rfl (e_fieldAddr t28 t22 rfl rfl) ?_
    refine st rfl rfl (e_load1 t22 rfl rfl (by repeat (first | exact look_same | assumption | refine look_ne (by omega) ?_ | refine look_keep (by assumption) (by omega) (by simp; try omega) ?_)) rfl) ?_
    refine st rfl rfl (e_len t22 rfl) ?_
    refine st rfl rfl (e_move rfl) ?_
    refine stEnd (hK _ [(1, _), (10, _), (11, _), (12, _)] _ _ rfl ?_)
    clear hK K
    refine W.block ?_
    refine W.ord [12, 1, 10, 11] (ts' := [(12, _)] ++ [(1, _), (10, _), (11, _)]) rfl ?_
    refine W.loopC [(12, _)] [] (fun κ V G μ => ∃ i : Nat, V = [(12, .int .i64 (i : Nat))] ∧ κ = cs.length - i ∧ (i ≤ cs.length) ∧ (∀ j, j < i → okAt X Y Z cs j = true)) _ ⟨0, rfl, rfl, (by first | omega | assumption | rfl | simp_all), (fun j hj => absurd hj (by omega))⟩ fun κ V G μ hinv hμ hkeep hfr => ?_
    obtain ⟨i, rfl, rfl, hi, hq⟩ := hinv
    refine W.sR [1, 10, 11, 12, 13] fun K hK => ?_
    refine st rfl rfl (e_lss rfl rfl) ?_
    refine stB (fun hb2 => ?_) (fun hb2 => ?_)
    ·
      try simp only [decide_eq_true_eq, decide_eq_false_iff_not, Bool.not_eq_true', Bool.not_eq_false', Bool.not_eq_true, Bool.not_eq_false] at hb2
      refine stEnd (hK _ [(1, _), (10, _), (11, _), (12, _), (13, _)] _ _ rfl ?_)
      clear hK K
      refine W.seq ?_
      refine W.condT rfl ?_
      refine W.skip ?_
      refine thenN ?_
      refine W.seq ?_
      refine W.block ?_
      refine W.sR [1, 3, 4, 10, 11, 12] fun K hK => ?_
      refine st rfl rfl (e_move rfl) ?_
      refine st rfl rfl (e_idxSK _ t22 t62 rfl rfl rfl (by first | omega | decide)) ?_
      refine st rfl rfl (e_loadP t62 rfl rfl (by repeat (first | exact look_same | assumption | refine look_ne (by omega) ?_ | refine look_keep (by assumption) (by omega) (by simp; try omega) ?_)) (flat_at (by omega))) ?_
      refine st rfl rfl (e_alloc t62 rfl) ?_
      refine st rfl rfl (e_assign rfl) ?_
      refine stN rfl (e_storeA t62 rfl rfl (by repeat (first | exact look_same | assumption | refine look_ne (by omega) ?_ | refine look_keep (by assumption) (by omega) (by simp; try omega) ?_)) rfl rfl rfl (by decide)) ?_
      refine stEnd (hK _ [(1, _), (3, _), (4, _), (10, _), (11, _), (12, _)] _ _ rfl ?_)
      clear hK K
      refine W.sD [1, 10, 11, 12, 36] [0, 1, 0, 7, 15, 31, 63, 127, 255, 511, 1023, 511, 2559, 8191, 16383, 511, 65535, 131071, 262143, 524287] (by kernel_rfl) (by kernel_rfl) fun K hK => ?_
      refine dL rfl rfl rfl (by omega) (accB_ok rfl) (e_loadA t28 rfl rfl (by repeat (first | exact look_same | assumption | refine look_ne (by omega) ?_ | refine look_keep (by assumption) (by omega) (by simp; try omega) ?_)) rfl rfl) ?_
      refine dC rfl rfl rfl rfl (impl_Heap_box_s _ _ _ _ _ _ ) (accB_ok rfl) ?_
      refine dL rfl rfl rfl (by omega) (by repeat (first | exact trivial | refine And.intro (Or.inl rfl) ?_ | refine And.intro (Or.inr trivial) ?_ | refine And.intro (Or.inr (And.intro (Or.inl (by omega)) (by first | (simp; done) | (simp; omega)))) ?_ | refine And.intro (Or.inr (And.intro (Or.inr (by omega)) (by first | (simp; done) | (simp; omega)))) ?_ | refine And.intro (Or.inr (by simp [compat]; try omega)) ?_)) (e_loadA t62 rfl rfl (by repeat (first | exact look_same | assumption | refine look_ne (by omega) ?_ | refine look_keep (by assumption) (by omega) (by simp; try omega) ?_)) rfl rfl) ?_
      refine dC rfl rfl rfl rfl (impl_box_has_s _ _ _ _ _ _ (by omega)) (accB_ok rfl) ?_
      refine dP rfl rfl rfl (e_not rfl) ?_
      refine dP rfl rfl rfl (e_move rfl) ?_
      refine dB (fun hb3 => ?_) (fun hb3 => ?_)
      ·
        try simp only [decide_eq_true_eq, decide_eq_false_iff_not, Bool.not_eq_true', Bool.not_eq_false', Bool.not_eq_true, Bool.not_eq_false] at hb3
        refine dS rfl rfl ?_
        refine dS rfl rfl ?_
        refine dS rfl rfl ?_
        refine dS rfl rfl ?_
        refine dS rfl rfl ?_
        refine dS rfl rfl ?_
        refine dS rfl rfl ?_
        refine dS rfl rfl ?_
        refine dS rfl rfl ?_
        refine dS rfl rfl ?_
        refine dS rfl rfl ?_
        refine dS rfl rfl ?_
        refine dS rfl rfl ?_
        refine dP rfl rfl rfl (e_pickT rfl rfl) ?_
        refine dEnd (hK _ [(1, _), (10, _), (11, _), (12, _), (36, _)] _ _ rfl ?_)
        clear hK K
        refine W.condT rfl ?_
        refine W.sR [2] fun K hK => ?_
        refine st rfl rfl (e_assign rfl) ?_
        refine stEnd (hK _ [(2, _)] _ _ rfl ?_)
        clear hK K
        refine W.ret ?_
        refine blockR ?_
        refine thenR ?_
        refine thenR ?_
        refine blockR ?_
        refine thenR ?_
        refine ⟨.inr rfl, Ends.v0 (by repeat (first | exact self_old | assumption | refine set_old ?_ (by omega) | refine keep_old (by assumption) ?_ (by omega) (by simp; try omega))) hfresh (by first | rfl | (simp [ltT, ltA, ltC, ltV]; try omega)) (res1 (resT rfl) rfl) ?_⟩
        first | (rw [isHeap_no1 hv]) | (rw [isHeap_yes hv (fun j hj => hq j (by omega))]) | (rw [isHeap_no2 (i := i) (by omega) (by first | exact okAt_no1 (by assumption) | exact okAt_no2 (by omega) (by assumption) | exact okAt_no3 (by omega) (by assumption))])
      ·
        try simp only [decide_eq_true_eq, decide_eq_false_iff_not, Bool.not_eq_true', Bool.not_eq_false', Bool.not_eq_true, Bool.not_eq_false] at hb3
        refine dP rfl rfl rfl (e_move rfl) ?_
        refine dP rfl rfl rfl (e_gtr rfl rfl) ?_
        refine dP rfl rfl rfl (e_move rfl) ?_
        refine dB (fun hb4 => ?_) (fun hb4 => ?_)
        ·
          try simp only [decide_eq_true_eq, decide_eq_false_iff_not, Bool.not_eq_true', Bool.not_eq_false', Bool.not_eq_true, Bool.not_eq_false] at hb4
          refine dP rfl rfl rfl (e_fieldAddr t28 t22 rfl rfl) ?_
          refine dL rfl rfl rfl (by omega) (accB_ok rfl) (e_load1 t22 rfl rfl (by repeat (first | exact look_same | assumption | refine look_ne (by omega) ?_ | refine look_keep (by assumption) (by omega) (by simp; try omega) ?_)) rfl) ?_
          refine dP rfl rfl rfl (e_move rfl) ?_
          refine dP rfl rfl rfl (e_sub rfl rfl (inB _ (by omega))) ?_
          refine dP rfl rfl rfl (e_idxSK (i - 1) t22 t62 rfl rfl (by first | rfl | omega) (by first | omega | decide)) ?_
          refine dL rfl rfl rfl (by omega) (accB_ok rfl) (e_loadP t62 rfl rfl (by repeat (first | exact look_same | assumption | refine look_ne (by omega) ?_ | refine look_keep (by assumption) (by omega) (by simp; try omega) ?_)) (flat_at (by omega))) ?_
          refine dL rfl rfl rfl (by omega) (accB_ok rfl) (e_loadA t62 rfl rfl (by repeat (first | exact look_same | assumption | refine look_ne (by omega) ?_ | refine look_keep (by assumption) (by omega) (by simp; try omega) ?_)) rfl rfl) ?_
          refine dC rfl rfl rfl rfl (impl_compareCells_s _ _ _ _ ) (accB_ok rfl) ?_
          refine dP rfl rfl rfl (e_geq rfl rfl) ?_
          refine dP rfl rfl rfl (e_pickT rfl rfl) ?_
          refine dP rfl rfl rfl (e_pickF rfl rfl) ?_
          refine dB (fun hb5 => ?_) (fun hb5 => ?_)
          ·
            try simp only [decide_eq_true_eq, decide_eq_false_iff_not, Bool.not_eq_true', Bool.not_eq_false', Bool.not_eq_true, Bool.not_eq_false] at hb5
            refine dEnd (hK _ [(1, _), (10, _), (11, _), (12, _), (36, _)] _ _ rfl ?_)
            clear hK K
            refine W.condT rfl ?_
            refine W.sR [2] fun K hK => ?_
            refine st rfl rfl (e_assign rfl) ?_
            refine stEnd (hK _ [(2, _)] _ _ rfl ?_)
            clear hK K
            refine W.ret ?_
            refine blockR ?_
            refine thenR ?_
            refine thenR ?_
            refine blockR ?_
            refine thenR ?_
            refine ⟨.inr rfl, Ends.v0 (by repeat (first | exact self_old | assumption | refine set_old ?_ (by omega) | refine keep_old (by assumption) ?_ (by omega) (by simp; try omega))) hfresh (by first | rfl | (simp [ltT, ltA, ltC, ltV]; try omega)) (res1 (resT rfl) rfl) ?_⟩
            first | (rw [isHeap_no1 hv]) | (rw [isHeap_yes hv (fun j hj => hq j (by omega))]) | (rw [isHeap_no2 (i := i) (by omega) (by first | exact okAt_no1 (by assumption) | exact okAt_no2 (by omega) (by assumption) | exact okAt_no3 (by omega) (by assumption))])
          ·
            try simp only [decide_eq_true_eq, decide_eq_false_iff_not, Bool.not_eq_true', Bool.not_eq_false', Bool.not_eq_true, Bool.not_eq_false] at hb5
            refine dEnd (hK _ [(1, _), (10, _), (11, _), (12, _), (36, _)] _ _ rfl ?_)
            clear hK K
            refine W.condF rfl ?_
            refine W.skip ?_
            refine blockN ?_
            refine thenN ?_
            refine W.rR [12, 1, 10, 11] fun K hK => ?_
            refine st rfl rfl (e_add rfl rfl (inB _ (by omega))) ?_
            refine st rfl rfl (e_move rfl) ?_
            refine stEnd (hK _ [(12, _), (1, _), (10, _), (11, _)] _ _ rfl ?_)
            clear hK K
            exact roundN (V' := [(12, _)]) [12, 1, 10, 11] rfl (by omega) (by repeat (first | exact Keeps.refl _ _ _ | assumption | refine Keeps.trans ?_ (by assumption) (by omega) (by simp; try omega) | refine Keeps.set ?_ (by first | exact Or.inl (by omega) | (simp; done) | (simp; omega)) | refine Keeps.del ?_ (by first | exact Or.inl (by omega) | (simp; done) | (simp; omega)) | refine Keeps.delO2 ?_ (by omega))) _ (by omega) ⟨i + 1, rfl, rfl, (by first | omega | assumption | simp_all), (all_succ hq (by first | exact okAt_yes1 (by assumption) (by omega) | exact okAt_yes2 (by assumption) (by assumption) | exact okAt_yes3 (by assumption) (by assumption)))⟩
        ·
          try simp only [decide_eq_true_eq, decide_eq_false_iff_not, Bool.not_eq_true', Bool.not_eq_false', Bool.not_eq_true, Bool.not_eq_false] at hb4
          refine dS rfl rfl ?_
          refine dS rfl rfl ?_
          refine dS rfl rfl ?_
          refine dS rfl rfl ?_
          refine dS rfl rfl ?_
          refine dS rfl rfl ?_
          refine dS rfl rfl ?_
          refine dS rfl rfl ?_
          refine dS rfl rfl ?_
          refine dP rfl rfl rfl (e_pickF rfl rfl) ?_
          refine dP rfl rfl rfl (e_pickF rfl rfl) ?_
          refine dEnd (hK _ [(1, _), (10, _), (11, _), (12, _), (36, _)] _ _ rfl ?_)
          clear hK K
          refine W.condF rfl ?_
          refine W.skip ?_
          refine blockN ?_
          refine thenN ?_
          refine W.rR [12, 1, 10, 11] fun K hK => ?_
          refine st rfl rfl (e_add rfl rfl (inB _ (by omega))) ?_
          refine st rfl rfl (e_move rfl) ?_
          refine stEnd (hK _ [(12, _), (1, _), (10, _), (11, _)] _ _ rfl ?_)
          clear hK K
          exact roundN (V' := [(12, _)]) [12, 1, 10, 11] rfl (by omega) (by repeat (first | exact Keeps.refl _ _ _ | assumption | refine Keeps.trans ?_ (by assumption) (by omega) (by simp; try omega) | refine Keeps.set ?_ (by first | exact Or.inl (by omega) | (simp; done) | (simp; omega)) | refine Keeps.del ?_ (by first | exact Or.inl (by omega) | (simp; done) | (simp; omega)) | refine Keeps.delO2 ?_ (by omega))) _ (by omega) ⟨i + 1, rfl, rfl, (by first | omega | assumption | simp_all), (all_succ hq (by first | exact okAt_yes1 (by assumption) (by omega) | exact okAt_yes2 (by assumption) (by assumption) | exact okAt_yes3 (by assumption) (by assumption)))⟩
    ·
      try simp only [decide_eq_true_eq, decide_eq_false_iff_not, Bool.not_eq_true', Bool.not_eq_false', Bool.not_eq_true, Bool.not_eq_false] at hb2
      refine stEnd (hK _ [(1, _), (10, _), (11, _), (12, _), (13, _)] _ _ rfl ?_)
      clear hK K
      refine W.seq ?_
      refine W.condF rfl ?_
      refine W.exit ?_
      refine thenE ?_
      refine thenE ?_
      refine blockX ?_
      refine thenN ?_
      refine W.sR [2] fun K hK => ?_
      refine st rfl rfl (e_assign rfl) ?_
      refine stEnd (hK _ [(2, _)] _ _ rfl ?_)
      clear hK K
      refine W.ret ?_
      refine ⟨.inr rfl, Ends.v0 (by repeat (first | exact self_old | assumption | refine set_old ?_ (by omega) | refine keep_old (by assumption) ?_ (by omega) (by simp; try omega))) hfresh (by first | rfl | (simp [ltT, ltA, ltC, ltV]; try omega)) (res1 (resT rfl) rfl) ?_⟩
      first | (rw [isHeap_no1 hv]) | (rw [isHeap_yes hv (fun j hj => hq j (by omega))]) | (rw [isHeap_no2 (i := i) (by omega) (by first | exact okAt_no1 (by assumption) | exact okAt_no2 (by omega) (by assumption) | exact okAt_no3 (by omega) (by assumption))])
theorem impl_isDirection_s (d : Int) (H : Heap) (n : Nat) : Fn Try.prog 110 [.int .i64 d] H n (.bool (within d 0 2)) (H) (n) := by
  refine Fn.intro' Try.func110 rfl (by kernel_rfl) Try.ntmps110 (by simp) (by omega) fun hfresh => ?_
  show W _ _ _ ⟨[(0, _)], _, _⟩ _
  refine W.sR [0] fun K hK => ?_
  refine st rfl rfl (e_assign rfl) ?_
  refine stEnd (hK _ [(0, _)] _ _ rfl ?_)
  clear hK K
  refine W.sR [2] fun K hK => ?_
  refine st rfl rfl (e_move rfl) ?_
  refine stC rfl rfl rfl (impl_within_s _ _ _ _ _ ) ?_
  refine st rfl rfl (e_assign rfl) ?_
  refine stEnd (hK _ [(2, _)] _ _ rfl ?_)
  clear hK K
  refine W.ret ?_
  refine ⟨.inr rfl, Ends.v0 (by repeat (first | exact self_old | assumption | refine set_old ?_ (by omega))) hfresh (by first | rfl | (simp [ltT, ltA, ltC, ltV]; try omega)) (res1 (resT rfl) rfl) ?_⟩
  rfl
theorem impl_areDirections_s (a b : Int) (H : Heap) (n : Nat) : Fn Try.prog 50 [.int .i64 a, .int .i64 b] H n (.bool (dirs2 a b)) (H) (n) := by
  refine Fn.intro' Try.func50 rfl (by kernel_rfl) Try.ntmps50 (by simp) (by omega) fun hfresh => ?_
  show W _ _ _ ⟨[(0, _), (1, _)], _, _⟩ _
  refine W.sR [0, 1] fun K hK => ?_
  refine st rfl rfl (e_assign rfl) ?_
  refine stEnd (hK _ [(0, _), (1, _)] _ _ rfl ?_)
  clear hK K
  refine W.sR [4] fun K hK => ?_
  refine st rfl rfl (e_move rfl) ?_
  refine stC rfl rfl rfl (impl_isDirection_s _ _ _ ) ?_
  refine st rfl rfl (e_move rfl) ?_
  refine stB (fun h1 => ?_) (fun h1 => ?_)
  ·
    try simp only [decide_eq_true_eq, decide_eq_false_iff_not, Bool.not_eq_true', Bool.not_eq_false', Bool.not_eq_true, Bool.not_eq_false] at h1
    refine st rfl rfl (e_move rfl) ?_
    refine stC rfl rfl rfl (impl_isDirection_s _ _ _ ) ?_
    refine st rfl rfl (e_pickT rfl rfl) ?_
    refine st rfl rfl (e_move rfl) ?_
    refine stB (fun h2 => ?_) (fun h2 => ?_)
    ·
      try simp only [decide_eq_true_eq, decide_eq_false_iff_not, Bool.not_eq_true', Bool.not_eq_false', Bool.not_eq_true, Bool.not_eq_false] at h2
      refine st rfl rfl (e_move rfl) ?_
      refine st rfl rfl (e_move rfl) ?_
      refine st rfl rfl (e_neq rfl rfl) ?_
      refine st rfl rfl (e_pickT rfl rfl) ?_
      refine st rfl rfl (e_assign rfl) ?_
      refine stEnd (hK _ [(4, _)] _ _ rfl ?_)
      clear hK K
      refine W.ret ?_
      refine ⟨.inr rfl, Ends.v0 (by repeat (first | exact self_old | assumption | refine set_old ?_ (by omega))) hfresh (by first | rfl | (simp [ltT, ltA, ltC, ltV]; try omega)) (res1 (resT rfl) rfl) ?_⟩
      simp [dirs2, h1, *]
    ·
      try simp only [decide_eq_true_eq, decide_eq_false_iff_not, Bool.not_eq_true', Bool.not_eq_false', Bool.not_eq_true, Bool.not_eq_false] at h2
      refine stS rfl rfl ?_
      refine stS rfl rfl ?_
      refine stS rfl rfl ?_
      refine st rfl rfl (e_pickF rfl rfl) ?_
      refine st rfl rfl (e_assign rfl) ?_
      refine stEnd (hK _ [(4, _)] _ _ rfl ?_)
      clear hK K
      refine W.ret ?_
      refine ⟨.inr rfl, Ends.v0 (by repeat (first | exact self_old | assumption | refine set_old ?_ (by omega))) hfresh (by first | rfl | (simp [ltT, ltA, ltC, ltV]; try omega)) (res1 (resT rfl) rfl) ?_⟩
      simp [dirs2, h1, *]
  ·
    try simp only [decide_eq_true_eq, decide_eq_false_iff_not, Bool.not_eq_true', Bool.not_eq_false', Bool.not_eq_true, Bool.not_eq_false] at h1
    refine stS rfl rfl ?_
    refine stS rfl rfl ?_
    refine st rfl rfl (e_pickF rfl rfl) ?_
    refine st rfl rfl (e_move rfl) ?_
    refine stS rfl rfl ?_
    refine stS rfl rfl ?_
    refine stS rfl rfl ?_
    refine st rfl rfl (e_pickF rfl rfl) ?_
    refine st rfl rfl (e_assign rfl) ?_
    refine stEnd (hK _ [(4, _)] _ _ rfl ?_)
    clear hK K
    refine W.ret ?_
    refine ⟨.inr rfl, Ends.v0 (by repeat (first | exact self_old | assumption | refine set_old ?_ (by omega))) hfresh (by first | rfl | (simp [ltT, ltA, ltC, ltV]; try omega)) (res1 (resT rfl) rfl) ?_⟩
    simp [dirs2, h1, *]
theorem impl_allWithin_p_s (b m : Nat) (ro : Bool) (zs : List Int) (lo hi : Int) (H : Heap) (n : Nat) (hb : H b = some (.cells ro (ints zs))) (hl : m ≤ zs.length) (hlen : m ≤ 1048576) : Fn Try.prog 72 [.slice (some ⟨b, 0, none⟩) m 1, .int .i64 lo, .int .i64 hi] H n (.bool ((zs.take m).all fun z => within z lo hi)) (H) (n) := by
  refine Fn.intro' Try.func72 rfl (by kernel_rfl) Try.ntmps72 (by simp) (by omega) fun hfresh => ?_
  have lt_hb := lt_fresh hfresh hb
  have htl : (zs.take m).length = m := by rw [List.length_take]; omega
  show W _ _ _ ⟨[(0, _), (1, _), (2, _)], _, _⟩ _
  refine W.sR [0, 1, 2] fun K hK => ?_
  refine st rfl rfl (e_assign rfl) ?_
  refine stEnd (hK _ [(0, _), (1, _), (2, _)] _ _ rfl ?_)
  clear hK K
  refine W.seq ?_
  refine W.sR [1, 2, 9, 10, 11] fun K hK => ?_
  refine st rfl rfl (e_move rfl) ?_
  refine st rfl rfl (e_len t82 rfl) ?_
  refine st rfl rfl (e_move rfl) ?_
  refine stEnd (hK _ [(1, _), (2, _), (9, _), (10, _), (11, _)] _ _ rfl ?_)
  clear hK K
  refine W.block ?_
  refine W.ord [11, 1, 2, 9, 10] (ts' := [(11, _)] ++ [(1, _), (2, _), (9, _), (10, _)]) rfl ?_
  refine W.loopC [(11, _)] [] (fun κ V G μ => ∃ i : Nat, V = [(11, .int .i64 (i : Nat))] ∧ κ = m - i ∧ (i ≤ m) ∧ (∀ j, j < i → within (at1 (zs.take m) j) lo hi = true)) _ ⟨0, rfl, rfl, (by first | omega | assumption | rfl | simp_all), (fun j hj => absurd hj (by omega))⟩ fun κ V G μ hinv hμ hkeep hfr => ?_
  obtain ⟨i, rfl, rfl, hi2, hq⟩ := hinv
  refine W.sR [1, 2, 9, 10, 11, 12] fun K hK => ?_
  refine st rfl rfl (e_lss rfl rfl) ?_
  refine stB (fun hb1 => ?_) (fun hb1 => ?_)
  ·
    try simp only [decide_eq_true_eq, decide_eq_false_iff_not, Bool.not_eq_true', Bool.not_eq_false', Bool.not_eq_true, Bool.not_eq_false] at hb1
    refine stEnd (hK _ [(1, _), (2, _), (9, _), (10, _), (11, _), (12, _)] _ _ rfl ?_)
    clear hK K
    refine W.seq ?_
    refine W.condT rfl ?_
    refine W.skip ?_
    refine thenN ?_
    refine W.seq ?_
    refine W.block ?_
    refine W.sR [1, 2, 8, 9, 10, 11] fun K hK => ?_
    refine st rfl rfl (e_idxSK _ t82 t3 rfl rfl rfl (by first | omega | decide)) ?_
    refine st rfl rfl (e_load1 t3 rfl rfl (by repeat (first | exact look_same | assumption | refine look_ne (by omega) ?_ | refine look_keep (by assumption) (by omega) (by simp; try omega) ?_)) (ints_at (by omega))) ?_
    refine st rfl rfl (e_assign rfl) ?_
    refine stEnd (hK _ [(1, _), (2, _), (8, _), (9, _), (10, _), (11, _)] _ _ rfl ?_)
    clear hK K
    refine W.sR [1, 2, 9, 10, 11, 19] fun K hK => ?_
    refine st rfl rfl (e_move rfl) ?_
    refine st rfl rfl (e_move rfl) ?_
    refine st rfl rfl (e_move rfl) ?_
    refine stC rfl rfl rfl (impl_within_s _ _ _ _ _ ) ?_
    rw [show at1 zs i = at1 (zs.take m) i from (at1_take (by omega)).symm]
    refine st rfl rfl (e_not rfl) ?_
    refine stB (fun hw => ?_) (fun hw => ?_)
    ·
      try simp only [decide_eq_true_eq, decide_eq_false_iff_not, Bool.not_eq_true', Bool.not_eq_false', Bool.not_eq_true, Bool.not_eq_false] at hw
      refine stEnd (hK _ [(1, _), (2, _), (9, _), (10, _), (11, _), (19, _)] _ _ rfl ?_)
      clear hK K
      refine W.condT rfl ?_
      refine W.sR [6] fun K hK => ?_
      refine st rfl rfl (e_assign rfl) ?_
      refine stEnd (hK _ [(6, _)] _ _ rfl ?_)
      clear hK K
      refine W.ret ?_
      refine blockR ?_
      refine thenR ?_
      refine thenR ?_
      refine blockR ?_
      refine thenR ?_
      refine ⟨.inr rfl, Ends.v0 (by repeat (first | exact self_old | assumption | refine set_old ?_ (by omega) | refine keep_old (by assumption) ?_ (by omega) (by simp; try omega))) hfresh (by first | rfl | (simp [ltT, ltA, ltC, ltV]; try omega)) (res1 (resT rfl) rfl) ?_⟩
      first | rw [all1_yes (fun j hj => hq j (by omega))] | rw [all1_no (i := i) (by omega) hw]
    ·
      try simp only [decide_eq_true_eq, decide_eq_false_iff_not, Bool.not_eq_true', Bool.not_eq_false', Bool.not_eq_true, Bool.not_eq_false] at hw
      refine stEnd (hK _ [(1, _), (2, _), (9, _), (10, _), (11, _), (19, _)] _ _ rfl ?_)
      clear hK K
      refine W.condF rfl ?_
      refine W.skip ?_
      refine blockN ?_
      refine thenN ?_
      refine W.rR [11, 1, 2, 9, 10] fun K hK => ?_
      refine st rfl rfl (e_add rfl rfl (inB _ (by omega))) ?_
      refine st rfl rfl (e_move rfl) ?_
      refine stEnd (hK _ [(11, _), (1, _), (2, _), (9, _), (10, _)] _ _ rfl ?_)
      clear hK K
      exact roundN (V' := [(11, _)]) [11, 1, 2, 9, 10] rfl (by omega) (by repeat (first | exact Keeps.refl _ _ _ | assumption | refine Keeps.trans ?_ (by assumption) (by omega) (by simp; try omega) | refine Keeps.set ?_ (by first | exact Or.inl (by omega) | (simp; done) | (simp; omega)) | refine Keeps.del ?_ (by first | exact Or.inl (by omega) | (simp; done) | (simp; omega)) | refine Keeps.delO2 ?_ (by omega))) _ (by omega) ⟨i + 1, rfl, rfl, (by first | omega | assumption | simp_all), (all_succ hq (by assumption))⟩
  ·
    try simp only [decide_eq_true_eq, decide_eq_false_iff_not, Bool.not_eq_true', Bool.not_eq_false', Bool.not_eq_true, Bool.not_eq_false] at hb1
    refine stEnd (hK _ [(1, _), (2, _), (9, _), (10, _), (11, _), (12, _)] _ _ rfl ?_)
    clear hK K
    refine W.seq ?_
    refine W.condF rfl ?_
    refine W.exit ?_
    refine thenE ?_
    refine thenE ?_
    refine blockX ?_
    refine thenN ?_
    refine W.sR [6] fun K hK => ?_
    refine st rfl rfl (e_assign rfl) ?_
    refine stEnd (hK _ [(6, _)] _ _ rfl ?_)
    clear hK K
    refine W.ret ?_
    refine ⟨.inr rfl, Ends.v0 (by repeat (first | exact self_old | assumption | refine set_old ?_ (by omega) | refine keep_old (by assumption) ?_ (by omega) (by simp; try omega))) hfresh (by first | rfl | (simp [ltT, ltA, ltC, ltV]; try omega)) (res1 (resT rfl) rfl) ?_⟩
    first | rw [all1_yes (fun j hj => hq j (by omega))] | rw [all1_no (i := i) (by omega) hw]
theorem impl_box_index_s (X Y Z : Int) (c : C) (H : Heap) (n : Nat) (hX : (1 ≤ X ∧ X ≤ 4) ∧ (1 ≤ Y ∧ Y ≤ 4) ∧ (1 ≤ Z ∧ Z ≤ 4)) (hc : (0 ≤ c.1 ∧ c.1 < X) ∧ (0 ≤ c.2.1 ∧ c.2.1 < Y) ∧ (0 ≤ c.2.2 ∧ c.2.2 < Z)) : Fn Try.prog 69 [.agg #[.int .i64 X, .int .i64 Y, .int .i64 Z], .agg #[.int .i64 c.1, .int .i64 c.2.1, .int .i64 c.2.2]] H n (.int .i64 ((cellIx Y Z c : Nat) : Int)) (H) (n) := by
  refine Fn.intro' Try.func69 rfl (by kernel_rfl) Try.ntmps69 (by simp) (by omega) fun hfresh => ?_
  have hm := mul_bd (a := c.1) (b := Y) (by omega) (by omega)
  have hi := ix3 hX hc
  have hx := ix2 hc.1 hc.2.1 hX.2.1
  have hmz : 0 ≤ (c.1 * Y + c.2.1) * Z ∧ (c.1 * Y + c.2.1) * Z ≤ 64 := mulZ_bd (by omega) hX.2.2
  have hk := cellIx_cast hX hc
  show W _ _ _ ⟨[(0, _), (1, _)], _, _⟩ _
  refine W.sR [2, 3] fun K hK => ?_
  refine st rfl rfl (e_boxA rfl) ?_
  refine st rfl rfl (e_boxA rfl) ?_
  refine st rfl rfl (e_assign rfl) ?_
  refine stEnd (hK _ [(2, _), (3, _)] _ _ rfl ?_)
  clear hK K
  refine W.sR [4] fun K hK => ?_
  refine st rfl rfl (e_idxAK (0) t62 t3 rfl rfl (by first | rfl | omega) (by first | omega | decide)) ?_
  refine st rfl rfl (e_load1 t3 rfl rfl (by repeat (first | exact look_same | assumption | refine look_ne (by omega) ?_)) (by first | rfl | exact tri_getL (by omega))) ?_
  refine st rfl rfl (e_idxAK (1) t63 t3 rfl rfl (by first | rfl | omega) (by first | omega | decide)) ?_
  refine st rfl rfl (e_load1 t3 rfl rfl (by repeat (first | exact look_same | assumption | refine look_ne (by omega) ?_)) (by first | rfl | exact tri_getL (by omega))) ?_
  refine st rfl rfl (e_mul rfl rfl (inB _ (by omega))) ?_
  refine st rfl rfl (e_idxAK (1) t62 t3 rfl rfl (by first | rfl | omega) (by first | omega | decide)) ?_
  refine st rfl rfl (e_load1 t3 rfl rfl (by repeat (first | exact look_same | assumption | refine look_ne (by omega) ?_)) (by first | rfl | exact tri_getL (by omega))) ?_
  refine st rfl rfl (e_add rfl rfl (inB _ (by omega))) ?_
  refine st rfl rfl (e_idxAK (2) t63 t3 rfl rfl (by first | rfl | omega) (by first | omega | decide)) ?_
  refine st rfl rfl (e_load1 t3 rfl rfl (by repeat (first | exact look_same | assumption | refine look_ne (by omega) ?_)) (by first | rfl | exact tri_getL (by omega))) ?_
  refine st rfl rfl (e_mul rfl rfl (inB _ (by omega))) ?_
  refine st rfl rfl (e_idxAK (2) t62 t3 rfl rfl (by first | rfl | omega) (by first | omega | decide)) ?_
  refine st rfl rfl (e_load1 t3 rfl rfl (by repeat (first | exact look_same | assumption | refine look_ne (by omega) ?_)) (by first | rfl | exact tri_getL (by omega))) ?_
  refine st rfl rfl (e_add rfl rfl (inB _ (by omega))) ?_
  refine st rfl rfl (e_assign rfl) ?_
  refine stEnd (hK _ [(4, _)] _ _ rfl ?_)
  clear hK K
  refine W.ret ?_
  refine ⟨.inr rfl, Ends.v0 (by repeat (first | exact self_old | assumption | refine set_old ?_ (by omega))) hfresh (by first | rfl | (simp [ltT, ltA, ltC, ltV]; try omega)) (res1 (resT rfl) rfl) ?_⟩
  rw [← hk]
theorem impl_Heap_cubes_s (X Y Z : Int) (b : Nat) (ro : Bool) (cs : List C) (H : Heap) (n : Nat) (hb : H b = some (.cells ro (flat cs))) (hlen : cs.length ≤ 1048576) (hv : Valid X Y Z cs) : Fn Try.prog 74 [.agg #[.int .i64 X, .int .i64 Y, .int .i64 Z, .slice (some ⟨b, 0, none⟩) cs.length 3]] H n (U (mask Y Z cs)) (H) (n) := by
  refine Fn.intro' Try.func74 rfl (by kernel_rfl) Try.ntmps74 (by simp) (by omega) fun hfresh => ?_
  have lt_hb := lt_fresh hfresh hb
  have hX := hv.box
  show W _ _ _ ⟨[(0, _)], _, _⟩ _
  refine W.sR [1] fun K hK => ?_
  refine st rfl rfl (e_boxA rfl) ?_
  refine st rfl rfl (e_assign rfl) ?_
  refine stEnd (hK _ [(1, _)] _ _ rfl ?_)
  clear hK K
  refine W.sR [1, 3] fun K hK => ?_
  refine st rfl rfl (e_assign rfl) ?_
  refine stEnd (hK _ [(1, _), (3, _)] _ _ rfl ?_)
  clear hK K
  refine W.seq ?_
  refine W.sR [1, 3, 7, 8, 9] fun K hK => ?_
  refine st rfl rfl (e_fieldAddr t28 t22 rfl rfl) ?_
  refine st rfl rfl (e_load1 t22 rfl rfl (by repeat (first | exact look_same | assumption | refine look_ne (by omega) ?_ | refine look_keep (by assumption) (by omega) (by simp; try omega) ?_)) rfl) ?_
  refine st rfl rfl (e_len t22 rfl) ?_
  refine st rfl rfl (e_move rfl) ?_
  refine stEnd (hK _ [(1, _), (3, _), (7, _), (8, _), (9, _)] _ _ rfl ?_)
  clear hK K
  refine W.block ?_
  refine W.ord [3, 9, 1, 7, 8] (ts' := [(3, _), (9, _)] ++ [(1, _), (7, _), (8, _)]) rfl ?_
  refine W.loopC [(3, _), (9, _)] [] (fun κ V G μ => ∃ i : Nat, V = [(3, U (maskN Y Z cs i)), (9, .int .i64 (i : Nat))] ∧ κ = cs.length - i ∧ (i ≤ cs.length)) _ ⟨0, rfl, rfl, (by first | omega | assumption | rfl | simp_all)⟩ fun κ V G μ hinv hμ hkeep hfr => ?_
  obtain ⟨i, rfl, rfl, hi⟩ := hinv
  refine W.sR [1, 3, 7, 8, 9, 10] fun K hK => ?_
  refine st rfl rfl (e_lss rfl rfl) ?_
  refine stB (fun hb1 => ?_) (fun hb1 => ?_)
  ·
    try simp only [decide_eq_true_eq, decide_eq_false_iff_not, Bool.not_eq_true', Bool.not_eq_false', Bool.not_eq_true, Bool.not_eq_false] at hb1
    refine stEnd (hK _ [(1, _), (3, _), (7, _), (8, _), (9, _), (10, _)] _ _ rfl ?_)
    clear hK K
    refine W.seq ?_
    refine W.condT rfl ?_
    refine W.skip ?_
    refine thenN ?_
    refine W.seq ?_
    refine W.block ?_
    have hc := hv.inn _ (at3_mem (show i < cs.length by omega))
    refine W.sR [1, 3, 5, 7, 8, 9] fun K hK => ?_
    refine st rfl rfl (e_idxSK _ t22 t62 rfl rfl rfl (by first | omega | decide)) ?_
    refine st rfl rfl (e_loadP t62 rfl rfl (by repeat (first | exact look_same | assumption | refine look_ne (by omega) ?_ | refine look_keep (by assumption) (by omega) (by simp; try omega) ?_)) (flat_at (by omega))) ?_
    refine st rfl rfl (e_alloc t62 rfl) ?_
    refine stN rfl (e_storeA t62 rfl rfl (by repeat (first | exact look_same | assumption | refine look_ne (by omega) ?_ | refine look_keep (by assumption) (by omega) (by simp; try omega) ?_)) rfl rfl rfl (by decide)) ?_
    refine stEnd (hK _ [(1, _), (3, _), (5, _), (7, _), (8, _), (9, _)] _ _ rfl ?_)
    clear hK K
    refine W.rD [1, 3, 7, 8, 9] [0, 0, 2, 0, 14, 30, 63, 127] (by kernel_rfl) (by kernel_rfl) fun K hK => ?_
    refine dP rfl rfl rfl (e_move rfl) ?_
    refine dL rfl rfl rfl (by omega) (accB_ok rfl) (e_loadA t28 rfl rfl (by repeat (first | exact look_same | assumption | refine look_ne (by omega) ?_ | refine look_keep (by assumption) (by omega) (by simp; try omega) ?_)) rfl rfl) ?_
    refine dC rfl rfl rfl rfl (impl_Heap_box_s _ _ _ _ _ _ ) (accB_ok rfl) ?_
    refine dL rfl rfl rfl (by omega) (by repeat (first | exact trivial | refine And.intro (Or.inl rfl) ?_ | refine And.intro (Or.inr trivial) ?_ | refine And.intro (Or.inr (And.intro (Or.inl (by omega)) (by first | (simp; done) | (simp; omega)))) ?_ | refine And.intro (Or.inr (And.intro (Or.inr (by omega)) (by first | (simp; done) | (simp; omega)))) ?_ | refine And.intro (Or.inr (by simp [compat]; try omega)) ?_)) (e_loadA t62 rfl rfl (by repeat (first | exact look_same | assumption | refine look_ne (by omega) ?_ | refine look_keep (by assumption) (by omega) (by simp; try omega) ?_)) rfl rfl) ?_
    refine dC rfl rfl rfl rfl (impl_box_index_s _ _ _ _ _ _ (by assumption) (by assumption)) (accB_ok rfl) ?_
    refine dP rfl rfl rfl (e_shlU (_) (ev_cU (k := 1) (by decide) rfl) rfl rfl) ?_
    refine dP rfl rfl rfl (e_orU rfl rfl) ?_
    refine dP rfl rfl rfl (e_assign rfl) ?_
    refine dEnd (hK _ [(1, _), (3, _), (7, _), (8, _), (9, _)] _ _ rfl ?_)
    clear hK K
    refine blockN ?_
    refine thenN ?_
    refine W.rR [3, 9, 1, 7, 8] fun K hK => ?_
    refine st rfl rfl (e_add rfl rfl (inB _ (by omega))) ?_
    refine st rfl rfl (e_move rfl) ?_
    refine stEnd (hK _ [(3, _), (9, _), (1, _), (7, _), (8, _)] _ _ rfl ?_)
    clear hK K
    exact roundN (V' := [(3, _), (9, _)]) [3, 9, 1, 7, 8] rfl (by omega) (by repeat (first | exact Keeps.refl _ _ _ | assumption | refine Keeps.trans ?_ (by assumption) (by omega) (by simp; try omega) | refine Keeps.set ?_ (by first | exact Or.inl (by omega) | (simp; done) | (simp; omega)) | refine Keeps.del ?_ (by first | exact Or.inl (by omega) | (simp; done) | (simp; omega)) | refine Keeps.delO2 ?_ (by omega))) _ (by omega) ⟨i + 1, (by rw [maskN_succ (by omega)]; rfl), rfl, (by first | omega | assumption | simp_all)⟩
  ·
    try simp only [decide_eq_true_eq, decide_eq_false_iff_not, Bool.not_eq_true', Bool.not_eq_false', Bool.not_eq_true, Bool.not_eq_false] at hb1
    refine stEnd (hK _ [(1, _), (3, _), (7, _), (8, _), (9, _), (10, _)] _ _ rfl ?_)
    clear hK K
    refine W.seq ?_
    refine W.condF rfl ?_
    refine W.exit ?_
    refine thenE ?_
    refine thenE ?_
    refine blockX ?_
    refine thenN ?_
    refine W.sR [2] fun K hK => ?_
    refine st rfl rfl (e_move rfl) ?_
    refine st rfl rfl (e_assign rfl) ?_
    refine stEnd (hK _ [(2, _)] _ _ rfl ?_)
    clear hK K
    refine W.ret ?_
    refine ⟨.inr rfl, Ends.v0 (by repeat (first | exact self_old | assumption | refine set_old ?_ (by omega) | refine keep_old (by assumption) ?_ (by omega) (by simp; try omega))) hfresh (by first | rfl | (simp [ltT, ltA, ltC, ltV]; try omega)) (res1 (resT rfl) rfl) ?_⟩
    (obtain rfl : i = cs.length := by omega); rfl
theorem impl_box_corners_s (X Y Z : Int) (c : C) (p q : Nat) (d e : Int) (H : Heap) (n : Nat) (hX : (1 ≤ X ∧ X ≤ 4) ∧ (1 ≤ Y ∧ Y ≤ 4) ∧ (1 ≤ Z ∧ Z ≤ 4)) (hp : p < 3) (hq : q < 3) : Fn Try.prog 133 [.agg #[.int .i64 X, .int .i64 Y, .int .i64 Z], .agg #[.int .i64 c.1, .int .i64 c.2.1, .int .i64 c.2.2, .int .i64 d, .int .i64 e], .int .i64 (p : Nat), .int .i64 (q : Nat)] H n (.tuple #[.agg (flat (corN c p q d e 4)).toArray, .bool (rectB X Y Z c p q d e)]) (H) (n) := by
  refine Fn.intro' Try.func133 rfl (by kernel_rfl) Try.ntmps133 (by simp) (by omega) fun hfresh => ?_
  show W _ _ _ ⟨[(0, _), (1, _), (2, _), (3, _)], _, _⟩ _
  refine W.sR [2, 3, 4, 5, 8] fun K hK => ?_
  refine st rfl rfl (e_boxA rfl) ?_
  refine st rfl rfl (e_boxA rfl) ?_
  refine st rfl rfl (e_alloc t124 rfl) ?_
  refine st rfl rfl (e_assign rfl) ?_
  refine stEnd (hK _ [(2, _), (3, _), (4, _), (5, _), (8, _)] _ _ rfl ?_)
  clear hK K
  refine W.sR [2, 3, 4, 5, 8, 10] fun K hK => ?_
  refine st rfl rfl (e_build rfl rfl (bld124_ )) ?_
  refine st rfl rfl (e_alloc t124 rfl) ?_
  refine stN rfl (e_storeA t124 rfl rfl (by repeat (first | exact look_same | assumption | refine look_ne (by omega) ?_ | refine look_keep (by assumption) (by omega) (by simp; try omega) ?_)) rfl rfl rfl (by decide)) ?_
  refine stEnd (hK _ [(2, _), (3, _), (4, _), (5, _), (8, _), (10, _)] _ _ rfl ?_)
  clear hK K
  refine W.seq ?_
  refine W.sR [2, 3, 4, 5, 8, 10, 13] fun K hK => ?_
  refine st rfl rfl (e_move rfl) ?_
  refine stEnd (hK _ [(2, _), (3, _), (4, _), (5, _), (8, _), (10, _), (13, _)] _ _ rfl ?_)
  clear hK K
  refine W.block ?_
  refine W.ord [13, 2, 3, 4, 5, 8, 10] (ts' := [(13, _)] ++ [(2, _), (3, _), (4, _), (5, _), (8, _), (10, _)]) rfl ?_
  refine W.loopC [(13, _)] [n + 1 + 1 + 1] (fun κ V G μ => ∃ i : Nat, V = [(13, .int .i64 (i : Nat))] ∧ κ = 4 - i ∧ (i ≤ 4) ∧ (G (n + 1 + 1 + 1) = some (.cells false (flat (corN c p q d e i))))) _ ⟨0, rfl, rfl, (by first | omega | assumption | rfl | simp_all), (by rw [corN_zero]; exact look_same)⟩ fun κ V G μ hinv hμ hkeep hfr => ?_
  obtain ⟨i, rfl, rfl, hi, hG⟩ := hinv
  refine W.sR [2, 3, 4, 5, 8, 10, 13, 14] fun K hK => ?_
  refine st rfl rfl (e_lss rfl rfl) ?_
  refine stB (fun hb1 => ?_) (fun hb1 => ?_)
  ·
    try simp only [decide_eq_true_eq, decide_eq_false_iff_not, Bool.not_eq_true', Bool.not_eq_false', Bool.not_eq_true, Bool.not_eq_false] at hb1
    refine stEnd (hK _ [(2, _), (3, _), (4, _), (5, _), (8, _), (10, _), (13, _), (14, _)] _ _ rfl ?_)
    clear hK K
    refine W.seq ?_
    refine W.condT rfl ?_
    refine W.skip ?_
    refine thenN ?_
    refine W.seq ?_
    refine W.block ?_
    refine W.sR [2, 3, 4, 5, 8, 10, 11, 13] fun K hK => ?_
    refine st rfl rfl (e_move rfl) ?_
    refine st rfl rfl (e_assign rfl) ?_
    refine stEnd (hK _ [(2, _), (3, _), (4, _), (5, _), (8, _), (10, _), (11, _), (13, _)] _ _ rfl ?_)
    clear hK K
    refine W.sR [2, 3, 4, 5, 8, 10, 11, 13] fun K hK => ?_
    refine st rfl rfl (e_move rfl) ?_
    refine st rfl rfl (e_sliceAHi 2 t46 t3 rfl rfl (by repeat (first | exact look_same | assumption | refine look_ne (by omega) ?_ | refine look_keep (by assumption) (by omega) (by simp; try omega) ?_)) (by first | (simp; done) | (simp only [tri, List.length_cons, List.length_nil]; omega)) rfl (by decide)) ?_
    refine st rfl rfl (e_arrayAt t62 rfl (by first | decide | omega)) ?_
    refine st rfl rfl (e_loadP t62 rfl rfl (by repeat (first | exact look_same | assumption | refine look_ne (by omega) ?_ | refine look_keep (by assumption) (by omega) (by simp; try omega) ?_)) (show _ ∧ _ = tri c from ⟨by simp, rfl⟩)) ?_
    refine st rfl rfl (e_idxAK _ t124 t62 rfl rfl rfl (by omega)) ?_
    refine stN rfl (e_storeP t62 rfl rfl (by repeat (first | exact look_same | assumption | refine look_ne (by omega) ?_ | refine look_keep (by assumption) (by omega) (by simp; try omega) ?_)) rfl (by rw [flat_length, corN_len]; omega)) ?_
    rw [flat_set (c := c) (k := i) (by rw [corN_len]; omega)]
    refine stEnd (hK _ [(2, _), (3, _), (4, _), (5, _), (8, _), (10, _), (11, _), (13, _)] _ _ rfl ?_)
    clear hK K
    refine W.seq ?_
    refine W.sR [2, 3, 4, 5, 8, 10, 11, 13, 23] fun K hK => ?_
    refine st rfl rfl (e_move rfl) ?_
    refine st rfl rfl (e_bin rfl rfl (and_1 (by omega))) ?_
    refine st rfl rfl (e_eql rfl rfl) ?_
    refine stB (fun h1 => ?_) (fun h1 => ?_)
    ·
      try simp only [decide_eq_true_eq, decide_eq_false_iff_not, Bool.not_eq_true', Bool.not_eq_false', Bool.not_eq_true, Bool.not_eq_false] at h1
      refine stEnd (hK _ [(2, _), (3, _), (4, _), (5, _), (8, _), (10, _), (11, _), (13, _), (23, _)] _ _ rfl ?_)
      clear hK K
      refine W.condT rfl ?_
      refine W.rD [2, 3, 4, 5, 8, 10, 11, 13] [0, 0, 1, 7, 15, 0, 32, 127, 1, 511, 1023] (by kernel_rfl) (by kernel_rfl) fun K hK => ?_
      refine dP rfl rfl rfl (e_move rfl) ?_
      refine dP rfl rfl rfl (e_move rfl) ?_
      refine dP rfl rfl rfl (e_idxAK _ t124 t62 rfl rfl rfl (by omega)) ?_
      refine dP rfl rfl rfl (e_idxAK _ t62 t3 rfl rfl rfl (by omega)) ?_
      refine dL rfl rfl rfl (by omega) (accB_ok rfl) (e_load1 t3 rfl rfl (by repeat (first | exact look_same | assumption | refine look_ne (by omega) ?_ | refine look_keep (by assumption) (by omega) (by simp; try omega) ?_)) (flat_putget (by rw [corN_len]; omega) hp)) ?_
      refine dP rfl rfl rfl (e_idxAK (3) t46 t3 rfl rfl (by first | rfl | omega) (by first | omega | decide)) ?_
      refine dL rfl rfl rfl (by omega) (accB_ok rfl) (e_load1 t3 rfl rfl (by repeat (first | exact look_same | assumption | refine look_ne (by omega) ?_ | refine look_keep (by assumption) (by omega) (by simp; try omega) ?_)) (by first | rfl | exact tri_getL (by omega))) ?_
      refine dP rfl rfl rfl (e_addW rfl rfl) ?_
      refine dP rfl rfl rfl (e_idxAK _ t124 t62 rfl rfl rfl (by omega)) ?_
      refine dP rfl rfl rfl (e_idxAK _ t62 t3 rfl rfl rfl (by omega)) ?_
      refine dSt rfl rfl (e_store1 t3 rfl rfl rfl (by repeat (first | exact look_same | assumption | refine look_ne (by omega) ?_ | refine look_keep (by assumption) (by omega) (by simp; try omega) ?_ | refine look_hide (by omega) (by first | exact List.not_mem_nil | (simp [hidden, Nat.testBit]; done) | (simp [hidden, Nat.testBit]; omega)) ?_)) (by rw [flat_length, List.length_set, corN_len]; omega)) (by omega) (by first | exact List.not_mem_nil | (simp [hidden, Nat.testBit]; done) | (simp [hidden, Nat.testBit]; omega)) (accB_ok rfl) ?_
      rw [flat_put (by rw [corN_len]; omega) hp]
      refine dEnd (hK _ [(2, _), (3, _), (4, _), (5, _), (8, _), (10, _), (11, _), (13, _)] _ _ rfl ?_)
      clear hK K
      refine thenN ?_
      refine W.sR [2, 3, 4, 5, 8, 10, 11, 13, 36] fun K hK => ?_
      refine st rfl rfl (e_move rfl) ?_
      refine st rfl rfl (e_bin rfl rfl (and_2 (by omega))) ?_
      refine st rfl rfl (e_eql rfl rfl) ?_
      refine stB (fun h2 => ?_) (fun h2 => ?_)
      ·
        try simp only [decide_eq_true_eq, decide_eq_false_iff_not, Bool.not_eq_true', Bool.not_eq_false', Bool.not_eq_true, Bool.not_eq_false] at h2
        refine stEnd (hK _ [(2, _), (3, _), (4, _), (5, _), (8, _), (10, _), (11, _), (13, _), (36, _)] _ _ rfl ?_)
        clear hK K
        refine W.condT rfl ?_
        refine W.rD [2, 3, 4, 5, 8, 10, 13] [0, 0, 1, 7, 15, 0, 32, 127, 1, 511, 1023] (by kernel_rfl) (by kernel_rfl) fun K hK => ?_
        refine dP rfl rfl rfl (e_move rfl) ?_
        refine dP rfl rfl rfl (e_move rfl) ?_
        refine dP rfl rfl rfl (e_idxAK _ t124 t62 rfl rfl rfl (by omega)) ?_
        refine dP rfl rfl rfl (e_idxAK _ t62 t3 rfl rfl rfl (by omega)) ?_
        refine dL rfl rfl rfl (by omega) (accB_ok rfl) (e_load1 t3 rfl rfl (by repeat (first | exact look_same | assumption | refine look_ne (by omega) ?_ | refine look_keep (by assumption) (by omega) (by simp; try omega) ?_)) (flat_putget (by rw [corN_len]; omega) hq)) ?_
        refine dP rfl rfl rfl (e_idxAK (4) t46 t3 rfl rfl (by first | rfl | omega) (by first | omega | decide)) ?_
        refine dL rfl rfl rfl (by omega) (accB_ok rfl) (e_load1 t3 rfl rfl (by repeat (first | exact look_same | assumption | refine look_ne (by omega) ?_ | refine look_keep (by assumption) (by omega) (by simp; try omega) ?_)) (by first | rfl | exact tri_getL (by omega))) ?_
        refine dP rfl rfl rfl (e_addW rfl rfl) ?_
        refine dP rfl rfl rfl (e_idxAK _ t124 t62 rfl rfl rfl (by omega)) ?_
        refine dP rfl rfl rfl (e_idxAK _ t62 t3 rfl rfl rfl (by omega)) ?_
        refine dSt rfl rfl (e_store1 t3 rfl rfl rfl (by repeat (first | exact look_same | assumption | refine look_ne (by omega) ?_ | refine look_keep (by assumption) (by omega) (by simp; try omega) ?_ | refine look_hide (by omega) (by first | exact List.not_mem_nil | (simp [hidden, Nat.testBit]; done) | (simp [hidden, Nat.testBit]; omega)) ?_)) (by rw [flat_length, List.length_set, corN_len]; omega)) (by omega) (by first | exact List.not_mem_nil | (simp [hidden, Nat.testBit]; done) | (simp [hidden, Nat.testBit]; omega)) (accB_ok rfl) ?_
        rw [flat_put (by rw [corN_len]; omega) hq]
        refine dEnd (hK _ [(2, _), (3, _), (4, _), (5, _), (8, _), (10, _), (13, _)] _ _ rfl ?_)
        clear hK K
        refine blockN ?_
        refine thenN ?_
        refine W.rR [13, 2, 3, 4, 5, 8, 10] fun K hK => ?_
        refine st rfl rfl (e_add rfl rfl (inB _ (by omega))) ?_
        refine st rfl rfl (e_move rfl) ?_
        refine stEnd (hK _ [(13, _), (2, _), (3, _), (4, _), (5, _), (8, _), (10, _)] _ _ rfl ?_)
        clear hK K
        exact roundN (V' := [(13, _)]) [13, 2, 3, 4, 5, 8, 10] rfl (by omega) (by repeat (first | exact Keeps.refl _ _ _ | assumption | refine Keeps.trans ?_ (by assumption) (by omega) (by simp; try omega) | refine Keeps.set ?_ (by first | exact Or.inl (by omega) | (simp; done) | (simp; omega)) | refine Keeps.del ?_ (by first | exact Or.inl (by omega) | (simp; done) | (simp; omega)) | refine Keeps.delO2 ?_ (by omega))) _ (by omega) ⟨i + 1, rfl, rfl, (by first | omega | assumption | simp_all), (look_same.trans (congrArg some (congrArg (Blk.cells false) (congrArg flat (by rw [← corN_succ (show i < 4 by omega), ← cor_TT h1 h2])))))⟩
      ·
        try simp only [decide_eq_true_eq, decide_eq_false_iff_not, Bool.not_eq_true', Bool.not_eq_false', Bool.not_eq_true, Bool.not_eq_false] at h2
        refine stEnd (hK _ [(2, _), (3, _), (4, _), (5, _), (8, _), (10, _), (11, _), (13, _), (36, _)] _ _ rfl ?_)
        clear hK K
        refine W.condF rfl ?_
        refine W.skip ?_
        refine blockN ?_
        refine thenN ?_
        refine W.rR [13, 2, 3, 4, 5, 8, 10] fun K hK => ?_
        refine st rfl rfl (e_add rfl rfl (inB _ (by omega))) ?_
        refine st rfl rfl (e_move rfl) ?_
        refine stEnd (hK _ [(13, _), (2, _), (3, _), (4, _), (5, _), (8, _), (10, _)] _ _ rfl ?_)
        clear hK K
        exact roundN (V' := [(13, _)]) [13, 2, 3, 4, 5, 8, 10] rfl (by omega) (by repeat (first | exact Keeps.refl _ _ _ | assumption | refine Keeps.trans ?_ (by assumption) (by omega) (by simp; try omega) | refine Keeps.set ?_ (by first | exact Or.inl (by omega) | (simp; done) | (simp; omega)) | refine Keeps.del ?_ (by first | exact Or.inl (by omega) | (simp; done) | (simp; omega)) | refine Keeps.delO2 ?_ (by omega))) _ (by omega) ⟨i + 1, rfl, rfl, (by first | omega | assumption | simp_all), (look_same.trans (congrArg some (congrArg (Blk.cells false) (congrArg flat (by rw [← corN_succ (show i < 4 by omega), ← cor_TF h1 h2])))))⟩
    ·
      try simp only [decide_eq_true_eq, decide_eq_false_iff_not, Bool.not_eq_true', Bool.not_eq_false', Bool.not_eq_true, Bool.not_eq_false] at h1
      refine stEnd (hK _ [(2, _), (3, _), (4, _), (5, _), (8, _), (10, _), (11, _), (13, _), (23, _)] _ _ rfl ?_)
      clear hK K
      refine W.condF rfl ?_
      refine W.skip ?_
      refine thenN ?_
      refine W.sR [2, 3, 4, 5, 8, 10, 11, 13, 36] fun K hK => ?_
      refine st rfl rfl (e_move rfl) ?_
      refine st rfl rfl (e_bin rfl rfl (and_2 (by omega))) ?_
      refine st rfl rfl (e_eql rfl rfl) ?_
      refine stB (fun h2 => ?_) (fun h2 => ?_)
      ·
        try simp only [decide_eq_true_eq, decide_eq_false_iff_not, Bool.not_eq_true', Bool.not_eq_false', Bool.not_eq_true, Bool.not_eq_false] at h2
        refine stEnd (hK _ [(2, _), (3, _), (4, _), (5, _), (8, _), (10, _), (11, _), (13, _), (36, _)] _ _ rfl ?_)
        clear hK K
        refine W.condT rfl ?_
        refine W.rD [2, 3, 4, 5, 8, 10, 13] [0, 0, 1, 7, 15, 0, 32, 127, 1, 511, 1023] (by kernel_rfl) (by kernel_rfl) fun K hK => ?_
        refine dP rfl rfl rfl (e_move rfl) ?_
        refine dP rfl rfl rfl (e_move rfl) ?_
        refine dP rfl rfl rfl (e_idxAK _ t124 t62 rfl rfl rfl (by omega)) ?_
        refine dP rfl rfl rfl (e_idxAK _ t62 t3 rfl rfl rfl (by omega)) ?_
        refine dL rfl rfl rfl (by omega) (accB_ok rfl) (e_load1 t3 rfl rfl (by repeat (first | exact look_same | assumption | refine look_ne (by omega) ?_ | refine look_keep (by assumption) (by omega) (by simp; try omega) ?_)) (flat_putget (by rw [corN_len]; omega) hq)) ?_
        refine dP rfl rfl rfl (e_idxAK (4) t46 t3 rfl rfl (by first | rfl | omega) (by first | omega | decide)) ?_
        refine dL rfl rfl rfl (by omega) (accB_ok rfl) (e_load1 t3 rfl rfl (by repeat (first | exact look_same | assumption | refine look_ne (by omega) ?_ | refine look_keep (by assumption) (by omega) (by simp; try omega) ?_)) (by first | rfl | exact tri_getL (by omega))) ?_
        refine dP rfl rfl rfl (e_addW rfl rfl) ?_
        refine dP rfl rfl rfl (e_idxAK _ t124 t62 rfl rfl rfl (by omega)) ?_
        refine dP rfl rfl rfl (e_idxAK _ t62 t3 rfl rfl rfl (by omega)) ?_
        refine dSt rfl rfl (e_store1 t3 rfl rfl rfl (by repeat (first | exact look_same | assumption | refine look_ne (by omega) ?_ | refine look_keep (by assumption) (by omega) (by simp; try omega) ?_ | refine look_hide (by omega) (by first | exact List.not_mem_nil | (simp [hidden, Nat.testBit]; done) | (simp [hidden, Nat.testBit]; omega)) ?_)) (by rw [flat_length, List.length_set, corN_len]; omega)) (by omega) (by first | exact List.not_mem_nil | (simp [hidden, Nat.testBit]; done) | (simp [hidden, Nat.testBit]; omega)) (accB_ok rfl) ?_
        rw [flat_put (by rw [corN_len]; omega) hq]
        refine dEnd (hK _ [(2, _), (3, _), (4, _), (5, _), (8, _), (10, _), (13, _)] _ _ rfl ?_)
        clear hK K
        refine blockN ?_
        refine thenN ?_
        refine W.rR [13, 2, 3, 4, 5, 8, 10] fun K hK => ?_
        refine st rfl rfl (e_add rfl rfl (inB _ (by omega))) ?_
        refine st rfl rfl (e_move rfl) ?_
        refine stEnd (hK _ [(13, _), (2, _), (3, _), (4, _), (5, _), (8, _), (10, _)] _ _ rfl ?_)
        clear hK K
        exact roundN (V' := [(13, _)]) [13, 2, 3, 4, 5, 8, 10] rfl (by omega) (by repeat (first | exact Keeps.refl _ _ _ | assumption | refine Keeps.trans ?_ (by assumption) (by omega) (by simp; try omega) | refine Keeps.set ?_ (by first | exact Or.inl (by omega) | (simp; done) | (simp; omega)) | refine Keeps.del ?_ (by first | exact Or.inl (by omega) | (simp; done) | (simp; omega)) | refine Keeps.delO2 ?_ (by omega))) _ (by omega) ⟨i + 1, rfl, rfl, (by first | omega | assumption | simp_all), (look_same.trans (congrArg some (congrArg (Blk.cells false) (congrArg flat (by rw [← corN_succ (show i < 4 by omega), ← cor_FT h1 h2])))))⟩
      ·
        try simp only [decide_eq_true_eq, decide_eq_false_iff_not, Bool.not_eq_true', Bool.not_eq_false', Bool.not_eq_true, Bool.not_eq_false] at h2
        refine stEnd (hK _ [(2, _), (3, _), (4, _), (5, _), (8, _), (10, _), (11, _), (13, _), (36, _)] _ _ rfl ?_)
        clear hK K
        refine W.condF rfl ?_
        refine W.skip ?_
        refine blockN ?_
        refine thenN ?_
        refine W.rR [13, 2, 3, 4, 5, 8, 10] fun K hK => ?_
        refine st rfl rfl (e_add rfl rfl (inB _ (by omega))) ?_
        refine st rfl rfl (e_move rfl) ?_
        refine stEnd (hK _ [(13, _), (2, _), (3, _), (4, _), (5, _), (8, _), (10, _)] _ _ rfl ?_)
        clear hK K
        exact roundN (V' := [(13, _)]) [13, 2, 3, 4, 5, 8, 10] rfl (by omega) (by repeat (first | exact Keeps.refl _ _ _ | assumption | refine Keeps.trans ?_ (by assumption) (by omega) (by simp; try omega) | refine Keeps.set ?_ (by first | exact Or.inl (by omega) | (simp; done) | (simp; omega)) | refine Keeps.del ?_ (by first | exact Or.inl (by omega) | (simp; done) | (simp; omega)) | refine Keeps.delO2 ?_ (by omega))) _ (by omega) ⟨i + 1, rfl, rfl, (by first | omega | assumption | simp_all), (look_same.trans (congrArg some (congrArg (Blk.cells false) (congrArg flat (by rw [← corN_succ (show i < 4 by omega), ← cor_FF h1 h2])))))⟩
  ·
    try simp only [decide_eq_true_eq, decide_eq_false_iff_not, Bool.not_eq_true', Bool.not_eq_false', Bool.not_eq_true, Bool.not_eq_false] at hb1
    refine stEnd (hK _ [(2, _), (3, _), (4, _), (5, _), (8, _), (10, _), (13, _), (14, _)] _ _ rfl ?_)
    clear hK K
    refine W.seq ?_
    refine W.condF rfl ?_
    refine W.exit ?_
    refine thenE ?_
    refine thenE ?_
    refine blockX ?_
    refine thenN ?_
    obtain rfl : i = 4 := by omega
    refine W.sD [8, 9] [0, 0, 2, 6, 14, 30, 62, 126, 254, 510, 1022, 1022, 3070, 8190, 16382, 32766, 65534, 65534, 196606, 524286, 1048574, 1048575, 4194303] (by kernel_rfl) (by kernel_rfl) fun K hK => ?_
    refine dL rfl rfl rfl (by omega) (accB_ok rfl) (e_loadA t124 rfl rfl (by repeat (first | exact look_same | assumption | refine look_ne (by omega) ?_ | refine look_keep (by assumption) (by omega) (by simp; try omega) ?_)) rfl (by rw [flat_length, corN_len])) ?_
    refine dP rfl rfl rfl (e_idxAK (3) t46 t3 rfl rfl (by first | rfl | omega) (by first | omega | decide)) ?_
    refine dL rfl rfl rfl (by omega) (accB_ok rfl) (e_load1 t3 rfl rfl (by repeat (first | exact look_same | assumption | refine look_ne (by omega) ?_ | refine look_keep (by assumption) (by omega) (by simp; try omega) ?_)) (by first | rfl | exact tri_getL (by omega))) ?_
    refine dC rfl rfl rfl rfl (impl_within_s _ _ _ _ _ ) (by repeat (first | exact trivial | refine And.intro (Or.inl rfl) ?_ | refine And.intro (Or.inr trivial) ?_ | refine And.intro (Or.inr (And.intro (Or.inl (by omega)) (by first | (simp; done) | (simp; omega)))) ?_ | refine And.intro (Or.inr (And.intro (Or.inr (by omega)) (by first | (simp; done) | (simp; omega)))) ?_ | refine And.intro (Or.inr (by simp [compat]; try omega)) ?_)) ?_
    refine dP rfl rfl rfl (e_move rfl) ?_
    refine dB (fun hw1 => ?_) (fun hw1 => ?_)
    ·
      try simp only [decide_eq_true_eq, decide_eq_false_iff_not, Bool.not_eq_true', Bool.not_eq_false', Bool.not_eq_true, Bool.not_eq_false] at hw1
      refine dP rfl rfl rfl (e_idxAK (4) t46 t3 rfl rfl (by first | rfl | omega) (by first | omega | decide)) ?_
      refine dL rfl rfl rfl (by omega) (accB_ok rfl) (e_load1 t3 rfl rfl (by repeat (first | exact look_same | assumption | refine look_ne (by omega) ?_ | refine look_keep (by assumption) (by omega) (by simp; try omega) ?_)) (by first | rfl | exact tri_getL (by omega))) ?_
      refine dC rfl rfl rfl rfl (impl_within_s _ _ _ _ _ ) (by repeat (first | exact trivial | refine And.intro (Or.inl rfl) ?_ | refine And.intro (Or.inr trivial) ?_ | refine And.intro (Or.inr (And.intro (Or.inl (by omega)) (by first | (simp; done) | (simp; omega)))) ?_ | refine And.intro (Or.inr (And.intro (Or.inr (by omega)) (by first | (simp; done) | (simp; omega)))) ?_ | refine And.intro (Or.inr (by simp [compat]; try omega)) ?_)) ?_
      refine dP rfl rfl rfl (e_pickT rfl rfl) ?_
      refine dP rfl rfl rfl (e_move rfl) ?_
      refine dB (fun hw2 => ?_) (fun hw2 => ?_)
      ·
        try simp only [decide_eq_true_eq, decide_eq_false_iff_not, Bool.not_eq_true', Bool.not_eq_false', Bool.not_eq_true, Bool.not_eq_false] at hw2
        refine dL rfl rfl rfl (by omega) (accB_ok rfl) (e_loadA t63 rfl rfl (by repeat (first | exact look_same | assumption | refine look_ne (by omega) ?_ | refine look_keep (by assumption) (by omega) (by simp; try omega) ?_)) rfl rfl) ?_
        refine dP rfl rfl rfl (e_idxAK (0) t124 t62 rfl rfl (by first | rfl | omega) (by first | omega | decide)) ?_
        refine dL rfl rfl rfl (by omega) (accB_ok rfl) (e_loadP t62 rfl rfl (by repeat (first | exact look_same | assumption | refine look_ne (by omega) ?_ | refine look_keep (by assumption) (by omega) (by simp; try omega) ?_)) (flat_at (k := 0) (by rw [corN_len]; omega))) ?_
        rw [corN_at (by omega), show cor c p q d e 0 = c from rfl]
        refine dC rfl rfl rfl rfl (impl_box_has_s _ _ _ c _ _ (by omega)) (by repeat (first | exact trivial | refine And.intro (Or.inl rfl) ?_ | refine And.intro (Or.inr trivial) ?_ | refine And.intro (Or.inr (And.intro (Or.inl (by omega)) (by first | (simp; done) | (simp; omega)))) ?_ | refine And.intro (Or.inr (And.intro (Or.inr (by omega)) (by first | (simp; done) | (simp; omega)))) ?_ | refine And.intro (Or.inr (by simp [compat]; try omega)) ?_)) ?_
        refine dP rfl rfl rfl (e_pickT rfl rfl) ?_
        refine dP rfl rfl rfl (e_move rfl) ?_
        refine dB (fun hw3 => ?_) (fun hw3 => ?_)
        ·
          try simp only [decide_eq_true_eq, decide_eq_false_iff_not, Bool.not_eq_true', Bool.not_eq_false', Bool.not_eq_true, Bool.not_eq_false] at hw3
          refine dL rfl rfl rfl (by omega) (accB_ok rfl) (e_loadA t63 rfl rfl (by repeat (first | exact look_same | assumption | refine look_ne (by omega) ?_ | refine look_keep (by assumption) (by omega) (by simp; try omega) ?_)) rfl rfl) ?_
          refine dP rfl rfl rfl (e_idxAK (3) t124 t62 rfl rfl (by first | rfl | omega) (by first | omega | decide)) ?_
          refine dL rfl rfl rfl (by omega) (accB_ok rfl) (e_loadP t62 rfl rfl (by repeat (first | exact look_same | assumption | refine look_ne (by omega) ?_ | refine look_keep (by assumption) (by omega) (by simp; try omega) ?_)) (flat_at (k := 3) (by rw [corN_len]; omega))) ?_
          rw [corN_at (by omega)]
          refine dC rfl rfl rfl rfl (impl_box_has_s _ _ _ (cor c p q d e 3) _ _ (by omega)) (by repeat (first | exact trivial | refine And.intro (Or.inl rfl) ?_ | refine And.intro (Or.inr trivial) ?_ | refine And.intro (Or.inr (And.intro (Or.inl (by omega)) (by first | (simp; done) | (simp; omega)))) ?_ | refine And.intro (Or.inr (And.intro (Or.inr (by omega)) (by first | (simp; done) | (simp; omega)))) ?_ | refine And.intro (Or.inr (by simp [compat]; try omega)) ?_)) ?_
          refine dP rfl rfl rfl (e_pickT rfl rfl) ?_
          refine dSt rfl rfl (e_storeA t124 rfl rfl (by repeat (first | exact look_same | assumption | refine look_ne (by omega) ?_ | refine look_keep (by assumption) (by omega) (by simp; try omega) ?_ | refine look_hide (by omega) (by first | exact List.not_mem_nil | (simp [hidden, Nat.testBit]; done) | (simp [hidden, Nat.testBit]; omega)) ?_)) rfl rfl rfl (by decide)) (by omega) (by first | exact List.not_mem_nil | (simp [hidden, Nat.testBit]; done) | (simp [hidden, Nat.testBit]; omega)) (accB_ok rfl) ?_
          refine dP rfl rfl rfl (e_assign rfl) ?_
          refine dEnd (hK _ [(8, _), (9, _)] _ _ rfl ?_)
          clear hK K
          refine W.ret ?_
          refine ⟨.inr rfl, Ends.v0 (by repeat (first | exact self_old | assumption | refine set_old ?_ (by omega) | refine keep_old (by assumption) ?_ (by omega) (by simp; try omega))) hfresh (by first | rfl | (simp [ltT, ltA, ltC, ltV]; try omega)) (res2 (resC t124 rfl rfl (by repeat (first | exact look_same | assumption | refine look_ne (by omega) ?_ | refine look_keep (by assumption) (by omega) (by simp; try omega) ?_)) rfl rfl) (resT rfl) rfl rfl) ?_⟩
          simp [rectB, *]
        ·
          try simp only [decide_eq_true_eq, decide_eq_false_iff_not, Bool.not_eq_true', Bool.not_eq_false', Bool.not_eq_true, Bool.not_eq_false] at hw3
          refine dS rfl rfl ?_
          refine dS rfl rfl ?_
          refine dS rfl rfl ?_
          refine dS rfl rfl ?_
          refine dP rfl rfl rfl (e_pickF rfl rfl) ?_
          refine dSt rfl rfl (e_storeA t124 rfl rfl (by repeat (first | exact look_same | assumption | refine look_ne (by omega) ?_ | refine look_keep (by assumption) (by omega) (by simp; try omega) ?_ | refine look_hide (by omega) (by first | exact List.not_mem_nil | (simp [hidden, Nat.testBit]; done) | (simp [hidden, Nat.testBit]; omega)) ?_)) rfl rfl rfl (by decide)) (by omega) (by first | exact List.not_mem_nil | (simp [hidden, Nat.testBit]; done) | (simp [hidden, Nat.testBit]; omega)) (accB_ok rfl) ?_
          refine dP rfl rfl rfl (e_assign rfl) ?_
          refine dEnd (hK _ [(8, _), (9, _)] _ _ rfl ?_)
          clear hK K
          refine W.ret ?_
          refine ⟨.inr rfl, Ends.v0 (by repeat (first | exact self_old | assumption | refine set_old ?_ (by omega) | refine keep_old (by assumption) ?_ (by omega) (by simp; try omega))) hfresh (by first | rfl | (simp [ltT, ltA, ltC, ltV]; try omega)) (res2 (resC t124 rfl rfl (by repeat (first | exact look_same | assumption | refine look_ne (by omega) ?_ | refine look_keep (by assumption) (by omega) (by simp; try omega) ?_)) rfl rfl) (resT rfl) rfl rfl) ?_⟩
          simp [rectB, *]
      ·
        try simp only [decide_eq_true_eq, decide_eq_false_iff_not, Bool.not_eq_true', Bool.not_eq_false', Bool.not_eq_true, Bool.not_eq_false] at hw2
        refine dS rfl rfl ?_
        refine dS rfl rfl ?_
        refine dS rfl rfl ?_
        refine dS rfl rfl ?_
        refine dP rfl rfl rfl (e_pickF rfl rfl) ?_
        refine dP rfl rfl rfl (e_move rfl) ?_
        refine dS rfl rfl ?_
        refine dS rfl rfl ?_
        refine dS rfl rfl ?_
        refine dS rfl rfl ?_
        refine dP rfl rfl rfl (e_pickF rfl rfl) ?_
        refine dSt rfl rfl (e_storeA t124 rfl rfl (by repeat (first | exact look_same | assumption | refine look_ne (by omega) ?_ | refine look_keep (by assumption) (by omega) (by simp; try omega) ?_ | refine look_hide (by omega) (by first | exact List.not_mem_nil | (simp [hidden, Nat.testBit]; done) | (simp [hidden, Nat.testBit]; omega)) ?_)) rfl rfl rfl (by decide)) (by omega) (by first | exact List.not_mem_nil | (simp [hidden, Nat.testBit]; done) | (simp [hidden, Nat.testBit]; omega)) (accB_ok rfl) ?_
        refine dP rfl rfl rfl (e_assign rfl) ?_
        refine dEnd (hK _ [(8, _), (9, _)] _ _ rfl ?_)
        clear hK K
        refine W.ret ?_
        refine ⟨.inr rfl, Ends.v0 (by repeat (first | exact self_old | assumption | refine set_old ?_ (by omega) | refine keep_old (by assumption) ?_ (by omega) (by simp; try omega))) hfresh (by first | rfl | (simp [ltT, ltA, ltC, ltV]; try omega)) (res2 (resC t124 rfl rfl (by repeat (first | exact look_same | assumption | refine look_ne (by omega) ?_ | refine look_keep (by assumption) (by omega) (by simp; try omega) ?_)) rfl rfl) (resT rfl) rfl rfl) ?_⟩
        simp [rectB, *]
    ·
      try simp only [decide_eq_true_eq, decide_eq_false_iff_not, Bool.not_eq_true', Bool.not_eq_false', Bool.not_eq_true, Bool.not_eq_false] at hw1
      refine dS rfl rfl ?_
      refine dS rfl rfl ?_
      refine dS rfl rfl ?_
      refine dP rfl rfl rfl (e_pickF rfl rfl) ?_
      refine dP rfl rfl rfl (e_move rfl) ?_
      refine dS rfl rfl ?_
      refine dS rfl rfl ?_
      refine dS rfl rfl ?_
      refine dS rfl rfl ?_
      refine dP rfl rfl rfl (e_pickF rfl rfl) ?_
      refine dP rfl rfl rfl (e_move rfl) ?_
      refine dS rfl rfl ?_
      refine dS rfl rfl ?_
      refine dS rfl rfl ?_
      refine dS rfl rfl ?_
      refine dP rfl rfl rfl (e_pickF rfl rfl) ?_
      refine dSt rfl rfl (e_storeA t124 rfl rfl (by repeat (first | exact look_same | assumption | refine look_ne (by omega) ?_ | refine look_keep (by assumption) (by omega) (by simp; try omega) ?_ | refine look_hide (by omega) (by first | exact List.not_mem_nil | (simp [hidden, Nat.testBit]; done) | (simp [hidden, Nat.testBit]; omega)) ?_)) rfl rfl rfl (by decide)) (by omega) (by first | exact List.not_mem_nil | (simp [hidden, Nat.testBit]; done) | (simp [hidden, Nat.testBit]; omega)) (accB_ok rfl) ?_
      refine dP rfl rfl rfl (e_assign rfl) ?_
      refine dEnd (hK _ [(8, _), (9, _)] _ _ rfl ?_)
      clear hK K
      refine W.ret ?_
      refine ⟨.inr rfl, Ends.v0 (by repeat (first | exact self_old | assumption | refine set_old ?_ (by omega) | refine keep_old (by assumption) ?_ (by omega) (by simp; try omega))) hfresh (by first | rfl | (simp [ltT, ltA, ltC, ltV]; try omega)) (res2 (resC t124 rfl rfl (by repeat (first | exact look_same | assumption | refine look_ne (by omega) ?_ | refine look_keep (by assumption) (by omega) (by simp; try omega) ?_)) rfl rfl) (resT rfl) rfl rfl) ?_⟩
      simp [rectB, *]
theorem impl_set_has_s (s : BitVec 64) (i : Nat) (H : Heap) (n : Nat) (hi : i < 64) : Fn Try.prog 68 [U s, .int .i64 (i : Nat)] H n (.bool (s.getLsbD i)) (H) (n) := by
  refine Fn.intro' Try.func68 rfl (by kernel_rfl) Try.ntmps68 (by simp) (by omega) fun hfresh => ?_
  show W _ _ _ ⟨[(0, _), (1, _)], _, _⟩ _
  refine W.sR [0, 1] fun K hK => ?_
  refine st rfl rfl (e_assign rfl) ?_
  refine stEnd (hK _ [(0, _), (1, _)] _ _ rfl ?_)
  clear hK K
  refine W.sR [4] fun K hK => ?_
  refine st rfl rfl (e_move rfl) ?_
  refine st rfl rfl (e_move rfl) ?_
  refine st rfl rfl (e_shrU (i) rfl rfl rfl) ?_
  refine st rfl rfl (e_andU rfl (ev_cU (k := 1) (by decide) rfl)) ?_
  refine st rfl rfl (e_eqlU rfl (ev_cU (k := 1) (by decide) rfl)) ?_
  refine st rfl rfl (e_assign rfl) ?_
  refine stEnd (hK _ [(4, _)] _ _ rfl ?_)
  clear hK K
  refine W.ret ?_
  refine ⟨.inr rfl, Ends.v0 (by repeat (first | exact self_old | assumption | refine set_old ?_ (by omega))) hfresh (by first | rfl | (simp [ltT, ltA, ltC, ltV]; try omega)) (res1 (resT rfl) rfl) ?_⟩
  exact congrArg Value.bool (has_bit hi)
theorem impl_box_switched_1_s (X Y Z : Int) (s : BitVec 64) (cs : List C) (c : C) (p q : Nat) (d e : Int) (j pa pb pc : Nat) (H : Heap) (n : Nat) (hpa : H pa = some (.cells false [U s])) (hpb : H pb = some (.cells false [.int .i64 X, .int .i64 Y, .int .i64 Z])) (hpc : H pc = some (.cells false (flat (corN c p q d e 4)))) (hr : Rep X Y Z s cs) (hR : Rect X Y Z c p q d e) (hj : j < 4) : Fn Try.prog 134 [.int .i64 (j : Nat), .pointer (some ⟨pa, 0, none⟩), .pointer (some ⟨pb, 0, none⟩), .pointer (some ⟨pc, 0, none⟩)] H n (.bool (cubB cs c p q d e j)) (H) (n) := by
  refine Fn.intro' Try.func134 rfl (by kernel_rfl) Try.ntmps134 (by simp) (by omega) fun hfresh => ?_
  have lt_hpa := lt_fresh hfresh hpa
  have lt_hpb := lt_fresh hfresh hpb
  have lt_hpc := lt_fresh hfresh hpc
  have hX := hr.valid.box
  have hin := hR.inn j hj
  have h64 := cellIx_lt64 hX hin
  show W _ _ _ ⟨[(0, _), (1, _), (2, _), (3, _)], _, _⟩ _
  refine W.sR [0, 1, 2, 3] fun K hK => ?_
  refine st rfl rfl (e_assign rfl) ?_
  refine stEnd (hK _ [(0, _), (1, _), (2, _), (3, _)] _ _ rfl ?_)
  clear hK K
  refine W.sD [5] [0, 0, 0, 4, 12, 30, 63, 127] (by kernel_rfl) (by kernel_rfl) fun K hK => ?_
  refine dL rfl rfl rfl (by omega) (accB_ok rfl) (e_load1 t73 rfl rfl (by repeat (first | exact look_same | assumption | refine look_ne (by omega) ?_)) rfl) ?_
  refine dL rfl rfl rfl (by omega) (accB_ok rfl) (e_loadA t63 rfl rfl (by repeat (first | exact look_same | assumption | refine look_ne (by omega) ?_)) rfl rfl) ?_
  refine dP rfl rfl rfl (e_move rfl) ?_
  refine dP rfl rfl rfl (e_idxAK _ t124 t62 rfl rfl rfl (by omega)) ?_
  refine dL rfl rfl rfl (by omega) (accB_ok rfl) (e_loadP t62 rfl rfl (by repeat (first | exact look_same | assumption | refine look_ne (by omega) ?_)) (flat_at (k := j) (by rw [corN_len]; omega))) ?_
  rw [corN_at hj]
  refine dC rfl rfl rfl rfl (impl_box_index_s _ _ _ (cor c p q d e j) _ _ (by assumption) (by assumption)) (by repeat (first | exact trivial | refine And.intro (Or.inl rfl) ?_ | refine And.intro (Or.inr trivial) ?_ | refine And.intro (Or.inr (And.intro (Or.inl (by omega)) (by first | (simp; done) | (simp; omega)))) ?_ | refine And.intro (Or.inr (And.intro (Or.inr (by omega)) (by first | (simp; done) | (simp; omega)))) ?_ | refine And.intro (Or.inr (by simp [compat]; try omega)) ?_)) ?_
  refine dC rfl rfl rfl rfl (impl_set_has_s _ _ _ _ (by omega)) (accB_ok rfl) ?_
  rw [hr.has hin]
  refine dP rfl rfl rfl (e_assign rfl) ?_
  refine dEnd (hK _ [(5, _)] _ _ rfl ?_)
  clear hK K
  refine W.ret ?_
  refine ⟨.inr rfl, Ends.v0 (by repeat (first | exact self_old | assumption | refine set_old ?_ (by omega))) hfresh (by first | rfl | (simp [ltT, ltA, ltC, ltV]; try omega)) (res1 (resT rfl) rfl) ?_⟩
  rfl
theorem impl_box_switched_s (X Y Z : Int) (s : BitVec 64) (cs : List C) (c : C) (p q : Nat) (d e : Int) (H : Heap) (n : Nat) (hr : Rep X Y Z s cs) (hp : p < 3) (hq : q < 3) (hpq : p ≠ q) : Fn Try.prog 73 [.agg #[.int .i64 X, .int .i64 Y, .int .i64 Z], U s, .int .i64 (p : Nat), .int .i64 (q : Nat), .agg #[.int .i64 c.1, .int .i64 c.2.1, .int .i64 c.2.2, .int .i64 d, .int .i64 e]] H n (.tuple #[U (if swB X Y Z cs c p q d e then swS Y Z s c p q d e 4 else 0#64), .bool (swB X Y Z cs c p q d e)]) (H) (n) := by
  refine Fn.intro' Try.func73 rfl (by kernel_rfl) Try.ntmps73 (by simp) (by omega) fun hfresh => ?_
  have hX := hr.valid.box
  show W _ _ _ ⟨[(0, _), (1, _), (2, _), (3, _), (4, _)], _, _⟩ _
  refine W.sR [2, 3, 5, 6, 9] fun K hK => ?_
  refine st rfl rfl (e_boxA rfl) ?_
  refine st rfl rfl (e_box1 rfl rfl) ?_
  refine st rfl rfl (e_boxA rfl) ?_
  refine st rfl rfl (e_assign rfl) ?_
  refine st rfl rfl (e_assign rfl) ?_
  refine stEnd (hK _ [(2, _), (3, _), (5, _), (6, _), (9, _)] _ _ rfl ?_)
  clear hK K
  refine W.sR [5, 6, 12, 13] fun K hK => ?_
  refine st rfl rfl (e_loadA t63 rfl rfl (by repeat (first | exact look_same | assumption | refine look_ne (by omega) ?_ | refine look_keep (by assumption) (by omega) (by simp; try omega) ?_)) rfl rfl) ?_
  refine st rfl rfl (e_loadA t46 rfl rfl (by repeat (first | exact look_same | assumption | refine look_ne (by omega) ?_ | refine look_keep (by assumption) (by omega) (by simp; try omega) ?_)) rfl rfl) ?_
  refine st rfl rfl (e_move rfl) ?_
  refine st rfl rfl (e_move rfl) ?_
  refine stC rfl rfl rfl (impl_box_corners_s _ _ _ c p q d e _ _ (by assumption) (by assumption) (by assumption)) ?_
  refine st rfl rfl (e_move rfl) ?_
  refine st rfl rfl (e_extract rfl rfl) ?_
  refine st rfl rfl (e_extract rfl rfl) ?_
  refine st rfl rfl (e_alloc t124 rfl) ?_
  refine stN rfl (e_storeA t124 rfl rfl (by repeat (first | exact look_same | assumption | refine look_ne (by omega) ?_ | refine look_keep (by assumption) (by omega) (by simp; try omega) ?_)) rfl rfl rfl (by decide)) ?_
  refine st rfl rfl (e_assign rfl) ?_
  refine stEnd (hK _ [(5, _), (6, _), (12, _), (13, _)] _ _ rfl ?_)
  clear hK K
  refine W.seq ?_
  refine W.sR [5, 6, 12, 26] fun K hK => ?_
  refine st rfl rfl (e_move rfl) ?_
  refine st rfl rfl (e_not rfl) ?_
  refine stB (fun hrb => ?_) (fun hrb => ?_)
  ·
    try simp only [decide_eq_true_eq, decide_eq_false_iff_not, Bool.not_eq_true', Bool.not_eq_false', Bool.not_eq_true, Bool.not_eq_false] at hrb
    refine stEnd (hK _ [(5, _), (6, _), (12, _), (26, _)] _ _ rfl ?_)
    clear hK K
    refine W.condT rfl ?_
    refine W.sR [10, 11] fun K hK => ?_
    refine st rfl rfl (e_assign rfl) ?_
    refine st rfl rfl (e_assign rfl) ?_
    refine stEnd (hK _ [(10, _), (11, _)] _ _ rfl ?_)
    clear hK K
    refine W.ret ?_
    refine thenR ?_
    refine ⟨.inr rfl, Ends.v0 (by repeat (first | exact self_old | assumption | refine set_old ?_ (by omega) | refine keep_old (by assumption) ?_ (by omega) (by simp; try omega))) hfresh (by first | rfl | (simp [ltT, ltA, ltC, ltV]; try omega)) (res2 (resT rfl) (resT rfl) rfl rfl) ?_⟩
    simp [swB, hrb]
  ·
    try simp only [decide_eq_true_eq, decide_eq_false_iff_not, Bool.not_eq_true', Bool.not_eq_false', Bool.not_eq_true, Bool.not_eq_false] at hrb
    have hR := rect_of hp hq hpq hX hrb
    refine stEnd (hK _ [(5, _), (6, _), (12, _), (26, _)] _ _ rfl ?_)
    clear hK K
    refine W.condF rfl ?_
    refine W.skip ?_
    refine thenN ?_
    refine W.sR [5, 6, 12, 14] fun K hK => ?_
    refine st rfl rfl (e_makeFunc rfl rfl) ?_
    refine st rfl rfl (e_assign rfl) ?_
    refine stEnd (hK _ [(5, _), (6, _), (12, _), (14, _)] _ _ rfl ?_)
    clear hK K
    refine W.seq ?_
    refine W.sR [5, 6, 12, 46] fun K hK => ?_
    refine st rfl rfl (e_move rfl) ?_
    refine stC rfl rfl rfl (impl_box_switched_1_s X Y Z s cs c p q d e 0 _ _ _ _ _ (by repeat (first | exact look_same | assumption | refine look_ne (by omega) ?_ | refine look_keep (by assumption) (by omega) (by simp; try omega) ?_)) (by repeat (first | exact look_same | assumption | refine look_ne (by omega) ?_ | refine look_keep (by assumption) (by omega) (by simp; try omega) ?_)) (by repeat (first | exact look_same | assumption | refine look_ne (by omega) ?_ | refine look_keep (by assumption) (by omega) (by simp; try omega) ?_)) hr hR (by omega)) ?_
    refine st rfl rfl (e_move rfl) ?_
    refine stC rfl rfl rfl (impl_box_switched_1_s X Y Z s cs c p q d e 3 _ _ _ _ _ (by repeat (first | exact look_same | assumption | refine look_ne (by omega) ?_ | refine look_keep (by assumption) (by omega) (by simp; try omega) ?_)) (by repeat (first | exact look_same | assumption | refine look_ne (by omega) ?_ | refine look_keep (by assumption) (by omega) (by simp; try omega) ?_)) (by repeat (first | exact look_same | assumption | refine look_ne (by omega) ?_ | refine look_keep (by assumption) (by omega) (by simp; try omega) ?_)) hr hR (by omega)) ?_
    refine st rfl rfl (e_neqB t4 rfl rfl) ?_
    refine st rfl rfl (e_move rfl) ?_
    refine stB (fun h1 => ?_) (fun h1 => ?_)
    ·
      try simp only [decide_eq_true_eq, decide_eq_false_iff_not, Bool.not_eq_true', Bool.not_eq_false', Bool.not_eq_true, Bool.not_eq_false] at h1
      refine stS rfl rfl ?_
      refine stS rfl rfl ?_
      refine stS rfl rfl ?_
      refine stS rfl rfl ?_
      refine stS rfl rfl ?_
      refine st rfl rfl (e_pickT rfl rfl) ?_
      refine st rfl rfl (e_move rfl) ?_
      refine stS rfl rfl ?_
      refine stS rfl rfl ?_
      refine stS rfl rfl ?_
      refine stS rfl rfl ?_
      refine stS rfl rfl ?_
      refine st rfl rfl (e_pickT rfl rfl) ?_
      refine stEnd (hK _ [(5, _), (6, _), (12, _), (46, _)] _ _ rfl ?_)
      clear hK K
      refine W.condT rfl ?_
      refine W.sR [10, 11] fun K hK => ?_
      refine st rfl rfl (e_assign rfl) ?_
      refine st rfl rfl (e_assign rfl) ?_
      refine stEnd (hK _ [(10, _), (11, _)] _ _ rfl ?_)
      clear hK K
      refine W.ret ?_
      refine thenR ?_
      refine ⟨.inr rfl, Ends.v0 (by repeat (first | exact self_old | assumption | refine set_old ?_ (by omega) | refine keep_old (by assumption) ?_ (by omega) (by simp; try omega))) hfresh (by first | rfl | (simp [ltT, ltA, ltC, ltV]; try omega)) (res2 (resT rfl) (resT rfl) rfl rfl) ?_⟩
      (simp only [swB, hrb, Bool.true_and]; generalize cubB cs c p q d e 0 = x0 at *; generalize cubB cs c p q d e 1 = x1 at *; generalize cubB cs c p q d e 2 = x2 at *; generalize cubB cs c p q d e 3 = x3 at *; cases x0 <;> cases x1 <;> cases x2 <;> cases x3 <;> simp_all)
    ·
      try simp only [decide_eq_true_eq, decide_eq_false_iff_not, Bool.not_eq_true', Bool.not_eq_false', Bool.not_eq_true, Bool.not_eq_false] at h1
      refine st rfl rfl (e_move rfl) ?_
      refine stC rfl rfl rfl (impl_box_switched_1_s X Y Z s cs c p q d e 1 _ _ _ _ _ (by repeat (first | exact look_same | assumption | refine look_ne (by omega) ?_ | refine look_keep (by assumption) (by omega) (by simp; try omega) ?_)) (by repeat (first | exact look_same | assumption | refine look_ne (by omega) ?_ | refine look_keep (by assumption) (by omega) (by simp; try omega) ?_)) (by repeat (first | exact look_same | assumption | refine look_ne (by omega) ?_ | refine look_keep (by assumption) (by omega) (by simp; try omega) ?_)) hr hR (by omega)) ?_
      refine st rfl rfl (e_move rfl) ?_
      refine stC rfl rfl rfl (impl_box_switched_1_s X Y Z s cs c p q d e 2 _ _ _ _ _ (by repeat (first | exact look_same | assumption | refine look_ne (by omega) ?_ | refine look_keep (by assumption) (by omega) (by simp; try omega) ?_)) (by repeat (first | exact look_same | assumption | refine look_ne (by omega) ?_ | refine look_keep (by assumption) (by omega) (by simp; try omega) ?_)) (by repeat (first | exact look_same | assumption | refine look_ne (by omega) ?_ | refine look_keep (by assumption) (by omega) (by simp; try omega) ?_)) hr hR (by omega)) ?_
      refine st rfl rfl (e_neqB t4 rfl rfl) ?_
      refine st rfl rfl (e_pickF rfl rfl) ?_
      refine st rfl rfl (e_move rfl) ?_
      refine stB (fun h2 => ?_) (fun h2 => ?_)
      ·
        try simp only [decide_eq_true_eq, decide_eq_false_iff_not, Bool.not_eq_true', Bool.not_eq_false', Bool.not_eq_true, Bool.not_eq_false] at h2
        refine stS rfl rfl ?_
        refine stS rfl rfl ?_
        refine stS rfl rfl ?_
        refine stS rfl rfl ?_
        refine stS rfl rfl ?_
        refine st rfl rfl (e_pickT rfl rfl) ?_
        refine stEnd (hK _ [(5, _), (6, _), (12, _), (46, _)] _ _ rfl ?_)
        clear hK K
        refine W.condT rfl ?_
        refine W.sR [10, 11] fun K hK => ?_
        refine st rfl rfl (e_assign rfl) ?_
        refine st rfl rfl (e_assign rfl) ?_
        refine stEnd (hK _ [(10, _), (11, _)] _ _ rfl ?_)
        clear hK K
        refine W.ret ?_
        refine thenR ?_
        refine ⟨.inr rfl, Ends.v0 (by repeat (first | exact self_old | assumption | refine set_old ?_ (by omega) | refine keep_old (by assumption) ?_ (by omega) (by simp; try omega))) hfresh (by first | rfl | (simp [ltT, ltA, ltC, ltV]; try omega)) (res2 (resT rfl) (resT rfl) rfl rfl) ?_⟩
        (simp only [swB, hrb, Bool.true_and]; generalize cubB cs c p q d e 0 = x0 at *; generalize cubB cs c p q d e 1 = x1 at *; generalize cubB cs c p q d e 2 = x2 at *; generalize cubB cs c p q d e 3 = x3 at *; cases x0 <;> cases x1 <;> cases x2 <;> cases x3 <;> simp_all)
      ·
        try simp only [decide_eq_true_eq, decide_eq_false_iff_not, Bool.not_eq_true', Bool.not_eq_false', Bool.not_eq_true, Bool.not_eq_false] at h2
        refine st rfl rfl (e_move rfl) ?_
        refine stC rfl rfl rfl (impl_box_switched_1_s X Y Z s cs c p q d e 0 _ _ _ _ _ (by repeat (first | exact look_same | assumption | refine look_ne (by omega) ?_ | refine look_keep (by assumption) (by omega) (by simp; try omega) ?_)) (by repeat (first | exact look_same | assumption | refine look_ne (by omega) ?_ | refine look_keep (by assumption) (by omega) (by simp; try omega) ?_)) (by repeat (first | exact look_same | assumption | refine look_ne (by omega) ?_ | refine look_keep (by assumption) (by omega) (by simp; try omega) ?_)) hr hR (by omega)) ?_
        refine st rfl rfl (e_move rfl) ?_
        refine stC rfl rfl rfl (impl_box_switched_1_s X Y Z s cs c p q d e 1 _ _ _ _ _ (by repeat (first | exact look_same | assumption | refine look_ne (by omega) ?_ | refine look_keep (by assumption) (by omega) (by simp; try omega) ?_)) (by repeat (first | exact look_same | assumption | refine look_ne (by omega) ?_ | refine look_keep (by assumption) (by omega) (by simp; try omega) ?_)) (by repeat (first | exact look_same | assumption | refine look_ne (by omega) ?_ | refine look_keep (by assumption) (by omega) (by simp; try omega) ?_)) hr hR (by omega)) ?_
        refine st rfl rfl (e_eqB t4 rfl rfl) ?_
        refine st rfl rfl (e_pickF rfl rfl) ?_
        refine stB (fun h3 => ?_) (fun h3 => ?_)
        ·
          try simp only [decide_eq_true_eq, decide_eq_false_iff_not, Bool.not_eq_true', Bool.not_eq_false', Bool.not_eq_true, Bool.not_eq_false] at h3
          refine stEnd (hK _ [(5, _), (6, _), (12, _), (46, _)] _ _ rfl ?_)
          clear hK K
          refine W.condT rfl ?_
          refine W.sR [10, 11] fun K hK => ?_
          refine st rfl rfl (e_assign rfl) ?_
          refine st rfl rfl (e_assign rfl) ?_
          refine stEnd (hK _ [(10, _), (11, _)] _ _ rfl ?_)
          clear hK K
          refine W.ret ?_
          refine thenR ?_
          refine ⟨.inr rfl, Ends.v0 (by repeat (first | exact self_old | assumption | refine set_old ?_ (by omega) | refine keep_old (by assumption) ?_ (by omega) (by simp; try omega))) hfresh (by first | rfl | (simp [ltT, ltA, ltC, ltV]; try omega)) (res2 (resT rfl) (resT rfl) rfl rfl) ?_⟩
          (simp only [swB, hrb, Bool.true_and]; generalize cubB cs c p q d e 0 = x0 at *; generalize cubB cs c p q d e 1 = x1 at *; generalize cubB cs c p q d e 2 = x2 at *; generalize cubB cs c p q d e 3 = x3 at *; cases x0 <;> cases x1 <;> cases x2 <;> cases x3 <;> simp_all)
        ·
          try simp only [decide_eq_true_eq, decide_eq_false_iff_not, Bool.not_eq_true', Bool.not_eq_false', Bool.not_eq_true, Bool.not_eq_false] at h3
          refine stEnd (hK _ [(5, _), (6, _), (12, _), (46, _)] _ _ rfl ?_)
          clear hK K
          refine W.condF rfl ?_
          refine W.skip ?_
          refine thenN ?_
          refine W.seq ?_
          refine W.sR [5, 6, 47, 48] fun K hK => ?_
          refine st rfl rfl (e_loadA t124 rfl rfl (by repeat (first | exact look_same | assumption | refine look_ne (by omega) ?_ | refine look_keep (by assumption) (by omega) (by simp; try omega) ?_)) rfl (by rw [flat_length, corN_len])) ?_
          refine st rfl rfl (e_move rfl) ?_
          refine stEnd (hK _ [(5, _), (6, _), (47, _), (48, _)] _ _ rfl ?_)
          clear hK K
          refine W.block ?_
          refine W.ord [48, 5, 6, 47] (ts' := [(48, _)] ++ [(5, _), (6, _), (47, _)]) rfl ?_
          refine W.loopC [(48, _)] [n + 1] (fun κ V G μ => ∃ i : Nat, V = [(48, .int .i64 (i : Nat))] ∧ κ = 4 - i ∧ (i ≤ 4) ∧ (G (n + 1) = some (.cells false [U (swS Y Z s c p q d e i)]))) _ ⟨0, rfl, rfl, (by first | omega | assumption | rfl | simp_all), (by repeat (first | exact look_same | assumption | refine look_ne (by omega) ?_ | refine look_keep (by assumption) (by omega) (by simp; try omega) ?_))⟩ fun κ V G μ hinv hμ hkeep hfr => ?_
          obtain ⟨i, rfl, rfl, hi, hG⟩ := hinv
          refine W.sR [5, 6, 47, 48, 49] fun K hK => ?_
          refine st rfl rfl (e_lss rfl rfl) ?_
          refine stB (fun hb5 => ?_) (fun hb5 => ?_)
          ·
            try simp only [decide_eq_true_eq, decide_eq_false_iff_not, Bool.not_eq_true', Bool.not_eq_false', Bool.not_eq_true, Bool.not_eq_false] at hb5
            refine stEnd (hK _ [(5, _), (6, _), (47, _), (48, _), (49, _)] _ _ rfl ?_)
            clear hK K
            refine W.seq ?_
            refine W.condT rfl ?_
            refine W.skip ?_
            refine thenN ?_
            refine W.seq ?_
            refine W.block ?_
            refine W.sR [5, 6, 16, 47, 48] fun K hK => ?_
            refine st rfl rfl (e_indexP t124 t62 rfl rfl rfl (by omega) (corN_drop (i := i) (by omega))) ?_
            refine st rfl rfl (e_alloc t62 rfl) ?_
            refine stN rfl (e_storeA t62 rfl rfl (by repeat (first | exact look_same | assumption | refine look_ne (by omega) ?_ | refine look_keep (by assumption) (by omega) (by simp; try omega) ?_)) rfl rfl rfl (by decide)) ?_
            refine stEnd (hK _ [(5, _), (6, _), (16, _), (47, _), (48, _)] _ _ rfl ?_)
            clear hK K
            have hin := hR.inn i (by omega)
            have h64 := cellIx_lt64 hX hin
            refine W.rD [5, 6, 47, 48] [0, 0, 0, 6, 14, 31, 63] (by kernel_rfl) (by kernel_rfl) fun K hK => ?_
            refine dL rfl rfl rfl (by omega) (accB_ok rfl) (e_load1 t73 rfl rfl (by repeat (first | exact look_same | assumption | refine look_ne (by omega) ?_ | refine look_keep (by assumption) (by omega) (by simp; try omega) ?_)) rfl) ?_
            refine dL rfl rfl rfl (by omega) (accB_ok rfl) (e_loadA t63 rfl rfl (by repeat (first | exact look_same | assumption | refine look_ne (by omega) ?_ | refine look_keep (by assumption) (by omega) (by simp; try omega) ?_)) rfl rfl) ?_
            refine dL rfl rfl rfl (by omega) (accB_ok rfl) (e_loadA t62 rfl rfl (by repeat (first | exact look_same | assumption | refine look_ne (by omega) ?_ | refine look_keep (by assumption) (by omega) (by simp; try omega) ?_)) rfl rfl) ?_
            refine dC rfl rfl rfl rfl (impl_box_index_s _ _ _ (cor c p q d e i) _ _ (by assumption) (by assumption)) (by repeat (first | exact trivial | refine And.intro (Or.inl rfl) ?_ | refine And.intro (Or.inr trivial) ?_ | refine And.intro (Or.inr (And.intro (Or.inl (by omega)) (by first | (simp; done) | (simp; omega)))) ?_ | refine And.intro (Or.inr (And.intro (Or.inr (by omega)) (by first | (simp; done) | (simp; omega)))) ?_ | refine And.intro (Or.inr (by simp [compat]; try omega)) ?_)) ?_
            refine dP rfl rfl rfl (e_shlU (_) (ev_cU (k := 1) (by decide) rfl) rfl rfl) ?_
            refine dP rfl rfl rfl (e_xorU rfl rfl) ?_
            refine dSt rfl rfl (e_store1 t73 rfl rfl rfl (by repeat (first | exact look_same | assumption | refine look_ne (by omega) ?_ | refine look_keep (by assumption) (by omega) (by simp; try omega) ?_ | refine look_hide (by omega) (by first | exact List.not_mem_nil | (simp [hidden, Nat.testBit]; done) | (simp [hidden, Nat.testBit]; omega)) ?_)) (by first | decide | (simp only [ints_length, flat_length]; omega) | (simp; done) | (simp; omega))) (by omega) (by first | exact List.not_mem_nil | (simp [hidden, Nat.testBit]; done) | (simp [hidden, Nat.testBit]; omega)) (accB_ok rfl) ?_
            refine dEnd (hK _ [(5, _), (6, _), (47, _), (48, _)] _ _ rfl ?_)
            clear hK K
            refine blockN ?_
            refine thenN ?_
            refine W.rR [48, 5, 6, 47] fun K hK => ?_
            refine st rfl rfl (e_add rfl rfl (inB _ (by omega))) ?_
            refine st rfl rfl (e_move rfl) ?_
            refine stEnd (hK _ [(48, _), (5, _), (6, _), (47, _)] _ _ rfl ?_)
            clear hK K
            exact roundN (V' := [(48, _)]) [48, 5, 6, 47] rfl (by omega) (by repeat (first | exact Keeps.refl _ _ _ | assumption | refine Keeps.trans ?_ (by assumption) (by omega) (by simp; try omega) | refine Keeps.set ?_ (by first | exact Or.inl (by omega) | (simp; done) | (simp; omega)) | refine Keeps.del ?_ (by first | exact Or.inl (by omega) | (simp; done) | (simp; omega)) | refine Keeps.delO2 ?_ (by omega))) _ (by omega) ⟨i + 1, rfl, rfl, (by first | omega | assumption | simp_all), look_same⟩
          ·
            try simp only [decide_eq_true_eq, decide_eq_false_iff_not, Bool.not_eq_true', Bool.not_eq_false', Bool.not_eq_true, Bool.not_eq_false] at hb5
            refine stEnd (hK _ [(5, _), (6, _), (47, _), (48, _), (49, _)] _ _ rfl ?_)
            clear hK K
            refine W.seq ?_
            refine W.condF rfl ?_
            refine W.exit ?_
            refine thenE ?_
            refine thenE ?_
            refine blockX ?_
            refine thenN ?_
            refine W.sR [10, 11] fun K hK => ?_
            refine st rfl rfl (e_load1 t73 rfl rfl (by repeat (first | exact look_same | assumption | refine look_ne (by omega) ?_ | refine look_keep (by assumption) (by omega) (by simp; try omega) ?_)) rfl) ?_
            refine st rfl rfl (e_assign rfl) ?_
            refine st rfl rfl (e_assign rfl) ?_
            refine stEnd (hK _ [(10, _), (11, _)] _ _ rfl ?_)
            clear hK K
            refine W.ret ?_
            refine ⟨.inr rfl, Ends.v0 (by repeat (first | exact self_old | assumption | refine set_old ?_ (by omega) | refine keep_old (by assumption) ?_ (by omega) (by simp; try omega))) hfresh (by first | rfl | (simp [ltT, ltA, ltC, ltV]; try omega)) (res2 (resT rfl) (resT rfl) rfl rfl) ?_⟩
            ((obtain rfl : i = 4 := by omega); simp only [swB, hrb, Bool.true_and]; generalize cubB cs c p q d e 0 = x0 at *; generalize cubB cs c p q d e 1 = x1 at *; generalize cubB cs c p q d e 2 = x2 at *; generalize cubB cs c p q d e 3 = x3 at *; cases x0 <;> cases x1 <;> cases x2 <;> cases x3 <;> simp_all)
theorem impl_box_size_s (X Y Z : Int) (H : Heap) (n : Nat) (hX : (1 ≤ X ∧ X ≤ 4) ∧ (1 ≤ Y ∧ Y ≤ 4) ∧ (1 ≤ Z ∧ Z ≤ 4)) : Fn Try.prog 111 [.agg #[.int .i64 X, .int .i64 Y, .int .i64 Z]] H n (.int .i64 ((vol X Y Z : Nat) : Int)) (H) (n) := by
  refine Fn.intro' Try.func111 rfl (by kernel_rfl) Try.ntmps111 (by simp) (by omega) fun hfresh => ?_
  have hv := vol_cast hX
  have hv2 := vol_le hX
  have hxy := mulXY hX.1 hX.2.1
  show W _ _ _ ⟨[(0, _)], _, _⟩ _
  refine W.sR [1] fun K hK => ?_
  refine st rfl rfl (e_boxA rfl) ?_
  refine st rfl rfl (e_assign rfl) ?_
  refine stEnd (hK _ [(1, _)] _ _ rfl ?_)
  clear hK K
  refine W.sR [2] fun K hK => ?_
  refine st rfl rfl (e_idxAK (0) t63 t3 rfl rfl (by first | rfl | omega) (by first | omega | decide)) ?_
  refine st rfl rfl (e_load1 t3 rfl rfl (by repeat (first | exact look_same | assumption | refine look_ne (by omega) ?_)) (by first | rfl | exact tri_getL (by omega))) ?_
  refine st rfl rfl (e_idxAK (1) t63 t3 rfl rfl (by first | rfl | omega) (by first | omega | decide)) ?_
  refine st rfl rfl (e_load1 t3 rfl rfl (by repeat (first | exact look_same | assumption | refine look_ne (by omega) ?_)) (by first | rfl | exact tri_getL (by omega))) ?_
  refine st rfl rfl (e_mul rfl rfl (inB _ (by omega))) ?_
  refine st rfl rfl (e_idxAK (2) t63 t3 rfl rfl (by first | rfl | omega) (by first | omega | decide)) ?_
  refine st rfl rfl (e_load1 t3 rfl rfl (by repeat (first | exact look_same | assumption | refine look_ne (by omega) ?_)) (by first | rfl | exact tri_getL (by omega))) ?_
  refine st rfl rfl (e_mul rfl rfl (inB _ (by omega))) ?_
  refine st rfl rfl (e_assign rfl) ?_
  refine stEnd (hK _ [(2, _)] _ _ rfl ?_)
  clear hK K
  refine W.ret ?_
  refine ⟨.inr rfl, Ends.v0 (by repeat (first | exact self_old | assumption | refine set_old ?_ (by omega))) hfresh (by first | rfl | (simp [ltT, ltA, ltC, ltV]; try omega)) (res1 (resT rfl) rfl) ?_⟩
  rw [← hv]
theorem impl_box_cell_s (X Y Z : Int) (i : Nat) (H : Heap) (n : Nat) (hX : (1 ≤ X ∧ X ≤ 4) ∧ (1 ≤ Y ∧ Y ≤ 4) ∧ (1 ≤ Z ∧ Z ≤ 4)) (hi : i < vol X Y Z) : Fn Try.prog 99 [.agg #[.int .i64 X, .int .i64 Y, .int .i64 Z], .int .i64 (i : Nat)] H n (.agg #[.int .i64 (cellAt Y Z i).1, .int .i64 (cellAt Y Z i).2.1, .int .i64 (cellAt Y Z i).2.2]) (H) (n) := by
  refine Fn.intro' Try.func99 rfl (by kernel_rfl) Try.ntmps99 (by simp) (by omega) fun hfresh => ?_
  have hv := vol_le hX
  have hq := quo_bd (i := (i : Int)) (k := Z) (by omega) hX.2.2
  have hq2 := quo_bd (i := (i : Int).tdiv Z) (k := Y) hq.1 hX.2.1
  show W _ _ _ ⟨[(0, _), (1, _)], _, _⟩ _
  refine W.sR [1, 2, 4] fun K hK => ?_
  refine st rfl rfl (e_boxA rfl) ?_
  refine st rfl rfl (e_alloc t62 rfl) ?_
  refine stEnd (hK _ [(1, _), (2, _), (4, _)] _ _ rfl ?_)
  clear hK K
  refine W.sD [4] [0, 0, 2, 7, 0, 16, 63, 0, 0, 256, 896, 0, 2048, 8064, 0, 0, 32768, 114688, 262143, 524287] (by kernel_rfl) (by kernel_rfl) fun K hK => ?_
  refine dP rfl rfl rfl (e_move rfl) ?_
  refine dP rfl rfl rfl (e_idxAK (2) t63 t3 rfl rfl (by first | rfl | omega) (by first | omega | decide)) ?_
  refine dL rfl rfl rfl (by omega) (accB_ok rfl) (e_load1 t3 rfl rfl (by repeat (first | exact look_same | assumption | refine look_ne (by omega) ?_)) (by first | rfl | exact tri_getL (by omega))) ?_
  refine dP rfl rfl rfl (e_quo rfl rfl (by omega) (inB _ (by omega))) ?_
  refine dP rfl rfl rfl (e_idxAK (1) t63 t3 rfl rfl (by first | rfl | omega) (by first | omega | decide)) ?_
  refine dL rfl rfl rfl (by omega) (accB_ok rfl) (e_load1 t3 rfl rfl (by repeat (first | exact look_same | assumption | refine look_ne (by omega) ?_)) (by first | rfl | exact tri_getL (by omega))) ?_
  refine dP rfl rfl rfl (e_quo rfl rfl (by omega) (inB _ (by omega))) ?_
  refine dP rfl rfl rfl (e_move rfl) ?_
  refine dP rfl rfl rfl (e_idxAK (2) t63 t3 rfl rfl (by first | rfl | omega) (by first | omega | decide)) ?_
  refine dL rfl rfl rfl (by omega) (accB_ok rfl) (e_load1 t3 rfl rfl (by repeat (first | exact look_same | assumption | refine look_ne (by omega) ?_)) (by first | rfl | exact tri_getL (by omega))) ?_
  refine dP rfl rfl rfl (e_quo rfl rfl (by omega) (inB _ (by omega))) ?_
  refine dP rfl rfl rfl (e_idxAK (1) t63 t3 rfl rfl (by first | rfl | omega) (by first | omega | decide)) ?_
  refine dL rfl rfl rfl (by omega) (accB_ok rfl) (e_load1 t3 rfl rfl (by repeat (first | exact look_same | assumption | refine look_ne (by omega) ?_)) (by first | rfl | exact tri_getL (by omega))) ?_
  refine dP rfl rfl rfl (e_rem rfl rfl (by omega)) ?_
  refine dP rfl rfl rfl (e_move rfl) ?_
  refine dP rfl rfl rfl (e_idxAK (2) t63 t3 rfl rfl (by first | rfl | omega) (by first | omega | decide)) ?_
  refine dL rfl rfl rfl (by omega) (accB_ok rfl) (e_load1 t3 rfl rfl (by repeat (first | exact look_same | assumption | refine look_ne (by omega) ?_)) (by first | rfl | exact tri_getL (by omega))) ?_
  refine dP rfl rfl rfl (e_rem rfl rfl (by omega)) ?_
  refine dP rfl rfl rfl (e_build rfl rfl (bld62_0_1_2 _ _ _ rfl rfl rfl)) ?_
  refine dSt rfl rfl (e_storeA t62 rfl rfl (by repeat (first | exact look_same | assumption | refine look_ne (by omega) ?_ | refine look_hide (by omega) (by first | exact List.not_mem_nil | (simp [hidden, Nat.testBit]; done) | (simp [hidden, Nat.testBit]; omega)) ?_)) rfl rfl rfl (by decide)) (by omega) (by first | exact List.not_mem_nil | (simp [hidden, Nat.testBit]; done) | (simp [hidden, Nat.testBit]; omega)) (accB_ok rfl) ?_
  refine dEnd (hK _ [(4, _)] _ _ rfl ?_)
  clear hK K
  refine W.ret ?_
  refine ⟨.inr rfl, Ends.v0 (by repeat (first | exact self_old | assumption | refine set_old ?_ (by omega))) hfresh (by first | rfl | (simp [ltT, ltA, ltC, ltV]; try omega)) (res1 (resC t62 rfl rfl (by repeat (first | exact look_same | assumption | refine look_ne (by omega) ?_)) rfl rfl) rfl) ?_⟩
  rw [cellAt_t (by omega) (by omega)]
theorem impl_box_list_s (X Y Z : Int) (s : BitVec 64) (H : Heap) (n : Nat) (hX : (1 ≤ X ∧ X ≤ 4) ∧ (1 ≤ Y ∧ Y ≤ 4) ∧ (1 ≤ Z ∧ Z ≤ 4)) : Fn Try.prog 90 [.agg #[.int .i64 X, .int .i64 Y, .int .i64 Z], U s] H n (.slice (some ⟨n, 0, none⟩) (cellsOf X Y Z s).length 3) (H.set n (.cells false (flat (cellsOf X Y Z s)))) (n + 1) := by
  refine Fn.intro' Try.func90 rfl (by kernel_rfl) Try.ntmps90 (by simp) (by omega) fun hfresh => ?_
  have hv := vol_le hX
  show W _ _ _ ⟨[(0, _), (1, _)], _, _⟩ _
  refine W.sR [1, 2] fun K hK => ?_
  refine st rfl rfl (e_boxA rfl) ?_
  refine st rfl rfl (e_assign rfl) ?_
  refine stEnd (hK _ [(1, _), (2, _)] _ _ rfl ?_)
  clear hK K
  refine W.sR [1, 2, 5] fun K hK => ?_
  refine st rfl rfl (e_buildSlice rfl rfl (bsl22_0)) ?_
  refine st rfl rfl (e_assign rfl) ?_
  refine stEnd (hK _ [(1, _), (2, _), (5, _)] _ _ rfl ?_)
  clear hK K
  refine W.seq ?_
  refine W.sR [1, 2, 5, 9, 10] fun K hK => ?_
  refine st rfl rfl (e_loadA t63 rfl rfl (by repeat (first | exact look_same | assumption | refine look_ne (by omega) ?_ | refine look_del (by omega) ?_ | refine look_keep (by assumption) (by omega) (by simp; try omega) ?_)) rfl rfl) ?_
  refine stC rfl rfl rfl (impl_box_size_s _ _ _ _ _ (by omega)) ?_
  refine st rfl rfl (e_move rfl) ?_
  refine stEnd (hK _ [(1, _), (2, _), (5, _), (9, _), (10, _)] _ _ rfl ?_)
  clear hK K
  refine W.block ?_
  refine W.ord [5, 10, 1, 2, 9] (ts' := [(5, _), (10, _)] ++ [(1, _), (2, _), (9, _)]) rfl ?_
  refine W.loopC [(5, _), (10, _)] [n + 1] (fun κ V G μ => ∃ i p : Nat, V = [(5, .slice (some ⟨p, 0, none⟩) (cellsTo Y Z s i).length 3), (10, .int .i64 (i : Nat))] ∧ κ = vol X Y Z - i ∧ (i ≤ vol X Y Z) ∧ ((p = n + 1 ∨ n + 1 + 1 ≤ p) ∧ p < μ) ∧ (G p = some (.cells false (flat (cellsTo Y Z s i))))) _ ⟨0, n + 1, rfl, rfl, (by first | omega | assumption | rfl | simp_all), (by omega), look_same⟩ fun κ V G μ hinv hμ hkeep hfr => ?_
  obtain ⟨i, p, rfl, rfl, hi, hp, hG⟩ := hinv
  refine W.sR [1, 2, 5, 9, 10, 11] fun K hK => ?_
  refine st rfl rfl (e_lss rfl rfl) ?_
  refine stB (fun hb1 => ?_) (fun hb1 => ?_)
  ·
    try simp only [decide_eq_true_eq, decide_eq_false_iff_not, Bool.not_eq_true', Bool.not_eq_false', Bool.not_eq_true, Bool.not_eq_false] at hb1
    refine stEnd (hK _ [(1, _), (2, _), (5, _), (9, _), (10, _), (11, _)] _ _ rfl ?_)
    clear hK K
    refine W.seq ?_
    refine W.condT rfl ?_
    refine W.skip ?_
    refine thenN ?_
    refine W.seq ?_
    refine W.block ?_
    refine W.sR [1, 2, 5, 6, 9, 10] fun K hK => ?_
    refine st rfl rfl (e_move rfl) ?_
    refine st rfl rfl (e_assign rfl) ?_
    refine stEnd (hK _ [(1, _), (2, _), (5, _), (6, _), (9, _), (10, _)] _ _ rfl ?_)
    clear hK K
    refine W.sR [1, 2, 5, 6, 9, 10, 15] fun K hK => ?_
    refine st rfl rfl (e_move rfl) ?_
    refine st rfl rfl (e_move rfl) ?_
    refine stC rfl rfl rfl (impl_set_has_s _ _ _ _ (by omega)) ?_
    refine stB (fun hb => ?_) (fun hb => ?_)
    ·
      try simp only [decide_eq_true_eq, decide_eq_false_iff_not, Bool.not_eq_true', Bool.not_eq_false', Bool.not_eq_true, Bool.not_eq_false] at hb
      refine stEnd (hK _ [(1, _), (2, _), (5, _), (6, _), (9, _), (10, _), (15, _)] _ _ rfl ?_)
      clear hK K
      refine W.condT rfl ?_
      refine W.rR [1, 2, 5, 9, 10] fun K hK => ?_
      refine st rfl rfl (e_move rfl) ?_
      refine st rfl rfl (e_loadA t63 rfl rfl (by repeat (first | exact look_same | assumption | refine look_ne (by omega) ?_ | refine look_del (by omega) ?_ | refine look_keep (by assumption) (by omega) (by simp; try omega) ?_)) rfl rfl) ?_
      refine st rfl rfl (e_move rfl) ?_
      refine stC rfl rfl rfl (impl_box_cell_s _ _ _ _ _ _ (by assumption) (by omega)) ?_
      refine st rfl rfl (e_buildSlice rfl rfl (bsl22_1)) ?_
      refine st rfl rfl (e_append t22 t22 t62 rfl rfl (by repeat (first | exact look_same | assumption | refine look_ne (by omega) ?_ | refine look_del (by omega) ?_ | refine look_keep (by assumption) (by omega) (by simp; try omega) ?_)) (by repeat (first | exact look_same | assumption | refine look_ne (by omega) ?_ | refine look_del (by omega) ?_ | refine look_keep (by assumption) (by omega) (by simp; try omega) ?_)) (by decide) (flat_length _) rfl (by have := cellsTo_len Y Z s i; omega)) ?_
      refine st rfl rfl (e_assign rfl) ?_
      refine stEnd (hK _ [(1, _), (2, _), (5, _), (9, _), (10, _)] _ _ rfl ?_)
      clear hK K
      refine blockN ?_
      refine thenN ?_
      refine W.rR [5, 10, 1, 2, 9] fun K hK => ?_
      refine st rfl rfl (e_add rfl rfl (inB _ (by omega))) ?_
      refine st rfl rfl (e_move rfl) ?_
      refine stEnd (hK _ [(5, _), (10, _), (1, _), (2, _), (9, _)] _ _ rfl ?_)
      clear hK K
      exact roundN (V' := [(5, _), (10, _)]) [5, 10, 1, 2, 9] rfl (by omega) (by repeat (first | exact Keeps.refl _ _ _ | assumption | refine Keeps.trans ?_ (by assumption) (by omega) (by simp; try omega) | refine Keeps.set ?_ (by first | exact Or.inl (by omega) | (simp; done) | (simp; omega)) | refine Keeps.del ?_ (by first | exact Or.inl (by omega) | (simp; done) | (simp; omega)) | refine Keeps.delO2 ?_ (by omega))) _ (by omega) ⟨i + 1, μ + 1, (by first | (rw [cellsTo_T hb]; simp) | (rw [cellsTo_F hb]; rfl)), rfl, (by first | omega | assumption | simp_all), (by omega), (by first | exact (look_same.trans (congrArg some (congrArg (Blk.cells false) (by rw [cellsTo_T hb]; exact flat_snoc _ _)))) | (rw [cellsTo_F hb]; exact (by repeat (first | exact look_same | assumption | refine look_ne (by omega) ?_ | refine look_keep (by assumption) (by omega) (by simp; try omega) ?_))))⟩
    ·
      try simp only [decide_eq_true_eq, decide_eq_false_iff_not, Bool.not_eq_true', Bool.not_eq_false', Bool.not_eq_true, Bool.not_eq_false] at hb
      refine stEnd (hK _ [(1, _), (2, _), (5, _), (6, _), (9, _), (10, _), (15, _)] _ _ rfl ?_)
      clear hK K
      refine W.condF rfl ?_
      refine W.skip ?_
      refine blockN ?_
      refine thenN ?_
      refine W.rR [5, 10, 1, 2, 9] fun K hK => ?_
      refine st rfl rfl (e_add rfl rfl (inB _ (by omega))) ?_
      refine st rfl rfl (e_move rfl) ?_
      refine stEnd (hK _ [(5, _), (10, _), (1, _), (2, _), (9, _)] _ _ rfl ?_)
      clear hK K
      exact roundN (V' := [(5, _), (10, _)]) [5, 10, 1, 2, 9] rfl (by omega) (by repeat (first | exact Keeps.refl _ _ _ | assumption | refine Keeps.trans ?_ (by assumption) (by omega) (by simp; try omega) | refine Keeps.set ?_ (by first | exact Or.inl (by omega) | (simp; done) | (simp; omega)) | refine Keeps.del ?_ (by first | exact Or.inl (by omega) | (simp; done) | (simp; omega)) | refine Keeps.delO2 ?_ (by omega))) _ (by omega) ⟨i + 1, p, (by first | (rw [cellsTo_T hb]; simp) | (rw [cellsTo_F hb]; rfl)), rfl, (by first | omega | assumption | simp_all), (by omega), (by first | exact (look_same.trans (congrArg some (congrArg (Blk.cells false) (by rw [cellsTo_T hb]; exact flat_snoc _ _)))) | (rw [cellsTo_F hb]; exact (by repeat (first | exact look_same | assumption | refine look_ne (by omega) ?_ | refine look_keep (by assumption) (by omega) (by simp; try omega) ?_))))⟩
  ·
    try simp only [decide_eq_true_eq, decide_eq_false_iff_not, Bool.not_eq_true', Bool.not_eq_false', Bool.not_eq_true, Bool.not_eq_false] at hb1
    refine stEnd (hK _ [(1, _), (2, _), (5, _), (9, _), (10, _), (11, _)] _ _ rfl ?_)
    clear hK K
    refine W.seq ?_
    refine W.condF rfl ?_
    refine W.exit ?_
    refine thenE ?_
    refine thenE ?_
    refine blockX ?_
    refine thenN ?_
    refine W.sR [4] fun K hK => ?_
    refine st rfl rfl (e_move rfl) ?_
    refine st rfl rfl (e_assign rfl) ?_
    refine stEnd (hK _ [(4, _)] _ _ rfl ?_)
    clear hK K
    refine W.ret ?_
    refine ⟨.inr rfl, Ends.v1 (p) (by omega) (by repeat (first | exact self_old | assumption | refine set_old ?_ (by omega) | refine del_old ?_ (by omega) | refine keep_old (by assumption) ?_ (by omega) (by simp; try omega))) hfresh (by repeat (first | exact look_same | assumption | refine look_ne (by omega) ?_ | refine look_del (by omega) ?_ | refine look_keep (by assumption) (by omega) (by simp; try omega) ?_)) ?_ (by first | exact flat_plain _ | exact ints_plain _) (by simp [ltT, ltA, ltC, ltV]; try omega) (res1 (resT rfl) rfl) ?_⟩
    · (obtain rfl : i = vol X Y Z := by omega); rfl
    · (obtain rfl : i = vol X Y Z := by omega); simp [renT, renV, renC, renA, one, cellsTo_all]
theorem impl_box_heap_s (X Y Z : Int) (s : BitVec 64) (H : Heap) (n : Nat) (hX : (1 ≤ X ∧ X ≤ 4) ∧ (1 ≤ Y ∧ Y ≤ 4) ∧ (1 ≤ Z ∧ Z ≤ 4)) : Fn Try.prog 75 [.agg #[.int .i64 X, .int .i64 Y, .int .i64 Z], U s] H n (.agg #[.int .i64 X, .int .i64 Y, .int .i64 Z, .slice (some ⟨n, 0, none⟩) (cellsOf X Y Z s).length 3]) (H.set n (.cells false (flat (cellsOf X Y Z s)))) (n + 1) := by
  refine Fn.intro' Try.func75 rfl (by kernel_rfl) Try.ntmps75 (by simp) (by omega) fun hfresh => ?_
  show W _ _ _ ⟨[(0, _), (1, _)], _, _⟩ _
  refine W.sR [1, 2, 4] fun K hK => ?_
  refine st rfl rfl (e_boxA rfl) ?_
  refine st rfl rfl (e_alloc t28 rfl) ?_
  refine stEnd (hK _ [(1, _), (2, _), (4, _)] _ _ rfl ?_)
  clear hK K
  refine W.sD [4] [0, 1, 0, 4, 0, 16, 0, 0, 192, 511, 1023] (by kernel_rfl) (by kernel_rfl) fun K hK => ?_
  refine dP rfl rfl rfl (e_idxAK (0) t63 t3 rfl rfl (by first | rfl | omega) (by first | omega | decide)) ?_
  refine dL rfl rfl rfl (by omega) (accB_ok rfl) (e_load1 t3 rfl rfl (by repeat (first | exact look_same | assumption | refine look_ne (by omega) ?_)) (by first | rfl | exact tri_getL (by omega))) ?_
  refine dP rfl rfl rfl (e_idxAK (1) t63 t3 rfl rfl (by first | rfl | omega) (by first | omega | decide)) ?_
  refine dL rfl rfl rfl (by omega) (accB_ok rfl) (e_load1 t3 rfl rfl (by repeat (first | exact look_same | assumption | refine look_ne (by omega) ?_)) (by first | rfl | exact tri_getL (by omega))) ?_
  refine dP rfl rfl rfl (e_idxAK (2) t63 t3 rfl rfl (by first | rfl | omega) (by first | omega | decide)) ?_
  refine dL rfl rfl rfl (by omega) (accB_ok rfl) (e_load1 t3 rfl rfl (by repeat (first | exact look_same | assumption | refine look_ne (by omega) ?_)) (by first | rfl | exact tri_getL (by omega))) ?_
  refine dL rfl rfl rfl (by omega) (accB_ok rfl) (e_loadA t63 rfl rfl (by repeat (first | exact look_same | assumption | refine look_ne (by omega) ?_)) rfl rfl) ?_
  refine dP rfl rfl rfl (e_move rfl) ?_
  refine dC1 rfl rfl rfl rfl (impl_box_list_s _ _ _ _ _ _ (by assumption)) (by repeat (first | exact trivial | refine And.intro (Or.inl rfl) ?_ | refine And.intro (Or.inr trivial) ?_ | refine And.intro (Or.inr (And.intro (Or.inl (by omega)) (by first | (simp; done) | (simp; omega)))) ?_ | refine And.intro (Or.inr (And.intro (Or.inr (by omega)) (by first | (simp; done) | (simp; omega)))) ?_ | refine And.intro (Or.inr (by simp [compat]; try omega)) ?_)) (by first | exact List.not_mem_nil | (simp [hidden, Nat.testBit]; done) | (simp [hidden, Nat.testBit]; omega)) ?_
  refine dP rfl rfl rfl (e_build rfl rfl (bld28_0_1_2_3 _ _ _ _ rfl rfl rfl rfl)) ?_
  refine dSt rfl rfl (e_storeA t28 rfl rfl (by repeat (first | exact look_same | assumption | refine look_ne (by omega) ?_ | refine look_hide (by omega) (by first | exact List.not_mem_nil | (simp [hidden, Nat.testBit]; done) | (simp [hidden, Nat.testBit]; omega)) ?_)) rfl rfl rfl (by decide)) (by omega) (by first | exact List.not_mem_nil | (simp [hidden, Nat.testBit]; done) | (simp [hidden, Nat.testBit]; omega)) (accB_ok rfl) ?_
  refine dEnd (hK _ [(4, _)] _ _ rfl ?_)
  clear hK K
  refine W.ret ?_
  refine ⟨.inr rfl, Ends.v1 (n + 1 + 1) (by omega) (by repeat (first | exact self_old | assumption | refine set_old ?_ (by omega))) hfresh (by repeat (first | exact look_same | assumption | refine look_ne (by omega) ?_)) ?_ (by first | exact flat_plain _ | exact ints_plain _) (by simp [ltT, ltA, ltC, ltV]; try omega) (res1 (resC t28 rfl rfl (by repeat (first | exact look_same | assumption | refine look_ne (by omega) ?_)) rfl rfl) rfl) ?_⟩
  · rfl
  · first | rfl | simp [renT, renV, renC, renA, one]
theorem impl_DoSwitch_ok_s (X Y Z : Int) (b : Nat) (ro : Bool) (cs : List C) (p q : Nat) (c : C) (d e : Int) (H : Heap) (n : Nat) (hb : H b = some (.cells ro (flat cs))) (hlen : cs.length ≤ 1048576) (hh : isHeap X Y Z cs = true) (hp : p < 3) (hq : q < 3) (hpq : p ≠ q) (hsw : swB X Y Z cs c p q d e = true) : Fn Try.prog 33 [.agg #[.int .i64 X, .int .i64 Y, .int .i64 Z, .slice (some ⟨b, 0, none⟩) cs.length 3], .int .i64 (p : Nat), .int .i64 (q : Nat), .agg #[.int .i64 c.1, .int .i64 c.2.1, .int .i64 c.2.2, .int .i64 d, .int .i64 e]] H n (.tuple #[.agg #[.int .i64 X, .int .i64 Y, .int .i64 Z, .slice (some ⟨n, 0, none⟩) (swL cs c p q d e 4).length 3], .bool true]) (H.set n (.cells false (flat (swL cs c p q d e 4)))) (n + 1) := by
  refine Fn.intro' Try.func33 rfl (by kernel_rfl) Try.ntmps33 (by simp) (by omega) fun hfresh => ?_
  have lt_hb := lt_fresh hfresh hb
  have hv := valid_of hh
  have hX := hv.box
  have hvl := vol_le hX
  have hcl := hv.len_vol
  have hR := sw_rect hp hq hpq hX hsw
  have hsl := swL_len (cs := cs) (c := c) (p := p) (q := q) (d := d) (e := e) 4
  show W _ _ _ ⟨[(0, _), (1, _), (2, _), (3, _)], _, _⟩ _
  refine W.sR [1, 2, 4, 7, 8] fun K hK => ?_
  refine st rfl rfl (e_boxA rfl) ?_
  refine st rfl rfl (e_boxA rfl) ?_
  refine st rfl rfl (e_alloc t28 rfl) ?_
  refine st rfl rfl (e_assign rfl) ?_
  refine stEnd (hK _ [(1, _), (2, _), (4, _), (7, _), (8, _)] _ _ rfl ?_)
  clear hK K
  refine W.seq ?_
  refine W.sR [1, 2, 4, 7, 8, 25] fun K hK => ?_
  refine st rfl rfl (e_loadA t28 rfl rfl (by repeat (first | exact look_same | assumption | refine look_ne (by omega) ?_)) rfl rfl) ?_
  refine stC rfl rfl rfl (impl_IsHeap_s _ _ _ _ _ _ _ _ (by repeat (first | exact look_same | assumption | refine look_ne (by omega) ?_)) (by omega)) ?_
  rw [hh]
  refine st rfl rfl (e_not rfl) ?_
  refine st rfl rfl (e_move rfl) ?_
  refine st rfl rfl (e_move rfl) ?_
  refine st rfl rfl (e_move rfl) ?_
  refine stC rfl rfl rfl (impl_areDirections_s _ _ _ _ ) ?_
  rw [dirs_yes hp hq hpq]
  refine st rfl rfl (e_not rfl) ?_
  refine st rfl rfl (e_pickF rfl rfl) ?_
  refine st rfl rfl (e_move rfl) ?_
  refine st rfl rfl (e_sliceAHi 2 t46 t3 rfl rfl (by repeat (first | exact look_same | assumption | refine look_ne (by omega) ?_)) (by first | (simp; done) | (simp only [tri, List.length_cons, List.length_nil]; omega)) rfl (by decide)) ?_
  refine stC rfl rfl rfl (impl_allWithin_p_s _ 3 _ [c.1, c.2.1, c.2.2, d, e] _ _ _ _ (by repeat (first | exact look_same | assumption | refine look_ne (by omega) ?_)) (by first | assumption | simp) (by omega)) ?_
  rw [show ([c.1, c.2.1, c.2.2, d, e].take 3) = [c.1, c.2.1, c.2.2] from rfl]
  rw [in4_list (hR.inn 0 (by omega)) hX]
  refine st rfl rfl (e_not rfl) ?_
  refine st rfl rfl (e_pickF rfl rfl) ?_
  refine stEnd (hK _ [(1, _), (2, _), (4, _), (7, _), (8, _), (25, _)] _ _ rfl ?_)
  clear hK K
  refine W.condF rfl ?_
  refine W.skip ?_
  refine thenN ?_
  refine W.sD [4, 8, 10, 11] [0, 1, 0, 7, 0, 0, 0, 127, 255, 511, 511, 1023, 4095] (by kernel_rfl) (by kernel_rfl) fun K hK => ?_
  refine dL rfl rfl rfl (by omega) (accB_ok rfl) (e_loadA t28 rfl rfl (by repeat (first | exact look_same | assumption | refine look_ne (by omega) ?_)) rfl rfl) ?_
  refine dC rfl rfl rfl rfl (impl_Heap_box_s _ _ _ _ _ _ ) (accB_ok rfl) ?_
  refine dL rfl rfl rfl (by omega) (by repeat (first | exact trivial | refine And.intro (Or.inl rfl) ?_ | refine And.intro (Or.inr trivial) ?_ | refine And.intro (Or.inr (And.intro (Or.inl (by omega)) (by first | (simp; done) | (simp; omega)))) ?_ | refine And.intro (Or.inr (And.intro (Or.inr (by omega)) (by first | (simp; done) | (simp; omega)))) ?_ | refine And.intro (Or.inr (by simp [compat]; try omega)) ?_)) (e_loadA t28 rfl rfl (by repeat (first | exact look_same | assumption | refine look_ne (by omega) ?_)) rfl rfl) ?_
  refine dC rfl rfl rfl rfl (impl_Heap_cubes_s _ _ _ _ _ _ _ _ (by repeat (first | exact look_same | assumption | refine look_ne (by omega) ?_ | refine look_hide (by omega) (by first | exact List.not_mem_nil | (simp [hidden, Nat.testBit]; done) | (simp [hidden, Nat.testBit]; omega)) ?_)) (by omega) (by assumption)) (accB_ok rfl) ?_
  refine dP rfl rfl rfl (e_move rfl) ?_
  refine dP rfl rfl rfl (e_move rfl) ?_
  refine dL rfl rfl rfl (by omega) (by repeat (first | exact trivial | refine And.intro (Or.inl rfl) ?_ | refine And.intro (Or.inr trivial) ?_ | refine And.intro (Or.inr (And.intro (Or.inl (by omega)) (by first | (simp; done) | (simp; omega)))) ?_ | refine And.intro (Or.inr (And.intro (Or.inr (by omega)) (by first | (simp; done) | (simp; omega)))) ?_ | refine And.intro (Or.inr (by simp [compat]; try omega)) ?_)) (e_loadA t46 rfl rfl (by repeat (first | exact look_same | assumption | refine look_ne (by omega) ?_)) rfl rfl) ?_
  refine dC rfl rfl rfl rfl (impl_box_switched_s _ _ _ (mask Y Z cs) cs c p q d e _ _ (rep_mask hv) (by assumption) (by assumption) (by assumption)) (accB_ok rfl) ?_
  rw [hsw, if_pos rfl]
  refine dP rfl rfl rfl (e_move rfl) ?_
  refine dP rfl rfl rfl (e_extract rfl rfl) ?_
  refine dP rfl rfl rfl (e_extract rfl rfl) ?_
  refine dP rfl rfl rfl (e_assign rfl) ?_
  refine dP rfl rfl rfl (e_assign rfl) ?_
  refine dEnd (hK _ [(4, _), (8, _), (10, _), (11, _)] _ _ rfl ?_)
  clear hK K
  refine W.seq ?_
  refine W.sR [4, 8, 10, 39] fun K hK => ?_
  refine st rfl rfl (e_move rfl) ?_
  refine st rfl rfl (e_not rfl) ?_
  refine stEnd (hK _ [(4, _), (8, _), (10, _), (39, _)] _ _ rfl ?_)
  clear hK K
  refine W.condF rfl ?_
  refine W.skip ?_
  refine thenN ?_
  refine W.sR [8, 9] fun K hK => ?_
  refine st rfl rfl (e_loadA t28 rfl rfl (by repeat (first | exact look_same | assumption | refine look_ne (by omega) ?_)) rfl rfl) ?_
  refine stC rfl rfl rfl (impl_Heap_box_s _ _ _ _ _ _ ) ?_
  refine st rfl rfl (e_move rfl) ?_
  refine stC rfl rfl rfl (impl_box_heap_s _ _ _ _ _ _ (by assumption)) ?_
  rw [(sw_rep (rep_mask hv) hR 4 (by omega)).cells]
  refine stN rfl (e_storeA t28 rfl rfl (by repeat (first | exact look_same | assumption | refine look_ne (by omega) ?_)) rfl rfl rfl (by decide)) ?_
  refine st rfl rfl (e_assign rfl) ?_
  refine stEnd (hK _ [(8, _), (9, _)] _ _ rfl ?_)
  clear hK K
  refine W.ret ?_
  refine ⟨.inr rfl, Ends.v1 (n + 1 + 1 + 1) (by omega) (by repeat (first | exact self_old | assumption | refine set_old ?_ (by omega))) hfresh (by repeat (first | exact look_same | assumption | refine look_ne (by omega) ?_)) ?_ (by first | exact flat_plain _ | exact ints_plain _) (by simp [ltT, ltA, ltC, ltV]; try omega) (res2 (resC t28 rfl rfl (by repeat (first | exact look_same | assumption | refine look_ne (by omega) ?_)) rfl rfl) (resT rfl) rfl rfl) ?_⟩
  · rfl
  · simp [renT, renV, renC, renA, one]
theorem laws_eqIntA3_s (a b : C) (H : Heap) (n : Nat) : Fn Try.prog 112 [.agg #[.int .i64 a.1, .int .i64 a.2.1, .int .i64 a.2.2], .agg #[.int .i64 b.1, .int .i64 b.2.1, .int .i64 b.2.2]] H n (.bool (decide (a = b))) (H) (n) := by
  refine Fn.intro' Try.func112 rfl (by kernel_rfl) Try.ntmps112 (by simp) (by omega) fun hfresh => ?_
  show W _ _ _ ⟨[(0, _), (1, _)], _, _⟩ _
  refine W.sR [2, 3] fun K hK => ?_
  refine st rfl rfl (e_boxA rfl) ?_
  refine st rfl rfl (e_boxA rfl) ?_
  refine st rfl rfl (e_assign rfl) ?_
  refine stEnd (hK _ [(2, _), (3, _)] _ _ rfl ?_)
  clear hK K
  refine W.seq ?_
  refine W.sR [2, 3, 5] fun K hK => ?_
  refine st rfl rfl (e_assign rfl) ?_
  refine stEnd (hK _ [(2, _), (3, _), (5, _)] _ _ rfl ?_)
  clear hK K
  refine W.block ?_
  refine W.ord [5, 2, 3] (ts' := [(5, _)] ++ [(2, _), (3, _)]) rfl ?_
  refine W.loopC [(5, _)] [] (fun κ V G μ => ∃ i : Nat, V = [(5, .int .i64 (i : Nat))] ∧ κ = 3 - i ∧ (i ≤ 3) ∧ (∀ j, j < i → ci a j = ci b j)) _ ⟨0, rfl, rfl, (by first | omega | assumption | rfl | simp_all), (fun j hj => absurd hj (by omega))⟩ fun κ V G μ hinv hμ hkeep hfr => ?_
  obtain ⟨i, rfl, rfl, hi, hq⟩ := hinv
  refine W.seq ?_
  refine W.sR [2, 3, 5, 7] fun K hK => ?_
  refine st rfl rfl (e_move rfl) ?_
  refine st rfl rfl (e_lss rfl rfl) ?_
  refine stB (fun hb1 => ?_) (fun hb1 => ?_)
  ·
    try simp only [decide_eq_true_eq, decide_eq_false_iff_not, Bool.not_eq_true', Bool.not_eq_false', Bool.not_eq_true, Bool.not_eq_false] at hb1
    refine stEnd (hK _ [(2, _), (3, _), (5, _), (7, _)] _ _ rfl ?_)
    clear hK K
    refine W.condT rfl ?_
    refine W.skip ?_
    refine thenN ?_
    refine W.seq ?_
    refine W.block ?_
    refine W.sD [2, 3, 5, 16] [0, 1, 3, 0, 8, 24, 63] (by kernel_rfl) (by kernel_rfl) fun K hK => ?_
    refine dP rfl rfl rfl (e_move rfl) ?_
    refine dP rfl rfl rfl (e_idxAK _ t62 t3 rfl rfl rfl (by first | omega | decide)) ?_
    refine dL rfl rfl rfl (by omega) (accB_ok rfl) (e_load1 t3 rfl rfl (by repeat (first | exact look_same | assumption | refine look_ne (by omega) ?_ | refine look_keep (by assumption) (by omega) (by simp; try omega) ?_)) (by first | rfl | exact tri_getL (by omega))) ?_
    refine dP rfl rfl rfl (e_move rfl) ?_
    refine dP rfl rfl rfl (e_idxAK _ t62 t3 rfl rfl rfl (by first | omega | decide)) ?_
    refine dL rfl rfl rfl (by omega) (accB_ok rfl) (e_load1 t3 rfl rfl (by repeat (first | exact look_same | assumption | refine look_ne (by omega) ?_ | refine look_keep (by assumption) (by omega) (by simp; try omega) ?_)) (by first | rfl | exact tri_getL (by omega))) ?_
    refine dP rfl rfl rfl (e_neq rfl rfl) ?_
    refine dB (fun hb2 => ?_) (fun hb2 => ?_)
    ·
      try simp only [decide_eq_true_eq, decide_eq_false_iff_not, Bool.not_eq_true', Bool.not_eq_false', Bool.not_eq_true, Bool.not_eq_false] at hb2
      refine dEnd (hK _ [(2, _), (3, _), (5, _), (16, _)] _ _ rfl ?_)
      clear hK K
      refine W.condT rfl ?_
      refine W.sR [4] fun K hK => ?_
      refine st rfl rfl (e_assign rfl) ?_
      refine stEnd (hK _ [(4, _)] _ _ rfl ?_)
      clear hK K
      refine W.ret ?_
      refine blockR ?_
      refine thenR ?_
      refine thenR ?_
      refine blockR ?_
      refine thenR ?_
      refine ⟨.inr rfl, Ends.v0 (by repeat (first | exact self_old | assumption | refine set_old ?_ (by omega) | refine keep_old (by assumption) ?_ (by omega) (by simp; try omega))) hfresh (by first | rfl | (simp [ltT, ltA, ltC, ltV]; try omega)) (res1 (resT rfl) rfl) ?_⟩
      first | (rw [decide_eq_true (ci_ext (fun j hj => hq j (by omega)))]) | (congr 1; refine (decide_eq_false ?_).symm; intro e; subst e; first | (exact absurd rfl (by assumption)) | omega)
    ·
      try simp only [decide_eq_true_eq, decide_eq_false_iff_not, Bool.not_eq_true', Bool.not_eq_false', Bool.not_eq_true, Bool.not_eq_false] at hb2
      refine dEnd (hK _ [(2, _), (3, _), (5, _), (16, _)] _ _ rfl ?_)
      clear hK K
      refine W.condF rfl ?_
      refine W.skip ?_
      refine blockN ?_
      refine thenN ?_
      refine W.rR [5, 2, 3] fun K hK => ?_
      refine st rfl rfl (e_move rfl) ?_
      refine st rfl rfl (e_add rfl rfl (inB _ (by omega))) ?_
      refine st rfl rfl (e_assign rfl) ?_
      refine stEnd (hK _ [(5, _), (2, _), (3, _)] _ _ rfl ?_)
      clear hK K
      exact roundN (V' := [(5, _)]) [5, 2, 3] rfl (by omega) (by repeat (first | exact Keeps.refl _ _ _ | assumption | refine Keeps.trans ?_ (by assumption) (by omega) (by simp; try omega) | refine Keeps.set ?_ (by first | exact Or.inl (by omega) | (simp; done) | (simp; omega)) | refine Keeps.del ?_ (by first | exact Or.inl (by omega) | (simp; done) | (simp; omega)) | refine Keeps.delO2 ?_ (by omega))) _ (by omega) ⟨i + 1, rfl, rfl, (by first | omega | assumption | simp_all), (all_succ hq (by assumption))⟩
  ·
    try simp only [decide_eq_true_eq, decide_eq_false_iff_not, Bool.not_eq_true', Bool.not_eq_false', Bool.not_eq_true, Bool.not_eq_false] at hb1
    refine stEnd (hK _ [(2, _), (3, _), (5, _), (7, _)] _ _ rfl ?_)
    clear hK K
    refine W.condF rfl ?_
    refine W.exit ?_
    refine thenE ?_
    refine thenE ?_
    refine blockX ?_
    refine thenN ?_
    refine W.sR [4] fun K hK => ?_
    refine st rfl rfl (e_assign rfl) ?_
    refine stEnd (hK _ [(4, _)] _ _ rfl ?_)
    clear hK K
    refine W.ret ?_
    refine ⟨.inr rfl, Ends.v0 (by repeat (first | exact self_old | assumption | refine set_old ?_ (by omega) | refine keep_old (by assumption) ?_ (by omega) (by simp; try omega))) hfresh (by first | rfl | (simp [ltT, ltA, ltC, ltV]; try omega)) (res1 (resT rfl) rfl) ?_⟩
    first | (rw [decide_eq_true (ci_ext (fun j hj => hq j (by omega)))]) | (congr 1; refine (decide_eq_false ?_).symm; intro e; subst e; first | (exact absurd rfl (by assumption)) | omega)
theorem laws_eqIntA3S_s (b : Nat) (ro : Bool) (xs : List C) (c : Nat) (ro2 : Bool) (ys : List C) (H : Heap) (n : Nat) (hb : H b = some (.cells ro (flat xs))) (hc : H c = some (.cells ro2 (flat ys))) (hxs : xs.length ≤ 1048576) : Fn Try.prog 52 [.slice (some ⟨b, 0, none⟩) xs.length 3, .slice (some ⟨c, 0, none⟩) ys.length 3] H n (.bool (decide (xs = ys))) (H) (n) := by
  refine Fn.intro' Try.func52 rfl (by kernel_rfl) Try.ntmps52 (by simp) (by omega) fun hfresh => ?_
  have lt_hb := lt_fresh hfresh hb
  have lt_hc := lt_fresh hfresh hc
  show W _ _ _ ⟨[(0, _), (1, _)], _, _⟩ _
  refine W.sR [0, 1] fun K hK => ?_
  refine st rfl rfl (e_assign rfl) ?_
  refine stEnd (hK _ [(0, _), (1, _)] _ _ rfl ?_)
  clear hK K
  refine W.seq ?_
  refine W.sR [0, 1, 10] fun K hK => ?_
  refine st rfl rfl (e_move rfl) ?_
  refine st rfl rfl (e_len t22 rfl) ?_
  refine st rfl rfl (e_move rfl) ?_
  refine st rfl rfl (e_len t22 rfl) ?_
  refine st rfl rfl (e_neq rfl rfl) ?_
  refine stB (fun hb1 => ?_) (fun hb1 => ?_)
  ·
    try simp only [decide_eq_true_eq, decide_eq_false_iff_not, Bool.not_eq_true', Bool.not_eq_false', Bool.not_eq_true, Bool.not_eq_false] at hb1
    refine stEnd (hK _ [(0, _), (1, _), (10, _)] _ _ rfl ?_)
    clear hK K
    refine W.condT rfl ?_
    refine W.sR [4] fun K hK => ?_
    refine st rfl rfl (e_assign rfl) ?_
    refine stEnd (hK _ [(4, _)] _ _ rfl ?_)
    clear hK K
    refine W.ret ?_
    refine thenR ?_
    refine ⟨.inr rfl, Ends.v0 (by repeat (first | exact self_old | assumption | refine set_old ?_ (by omega) | refine keep_old (by assumption) ?_ (by omega) (by simp; try omega))) hfresh (by first | rfl | (simp [ltT, ltA, ltC, ltV]; try omega)) (res1 (resT rfl) rfl) ?_⟩
    first | (rw [decide_eq_true (ext3 (by omega) (fun j hj => hq j (by omega)))]) | (congr 1; refine (decide_eq_false ?_).symm; intro e; subst e; first | (exact absurd rfl (by assumption)) | omega)
  ·
    try simp only [decide_eq_true_eq, decide_eq_false_iff_not, Bool.not_eq_true', Bool.not_eq_false', Bool.not_eq_true, Bool.not_eq_false] at hb1
    refine stEnd (hK _ [(0, _), (1, _), (10, _)] _ _ rfl ?_)
    clear hK K
    refine W.condF rfl ?_
    refine W.skip ?_
    refine thenN ?_
    refine W.seq ?_
    refine W.sR [0, 1, 5] fun K hK => ?_
    refine st rfl rfl (e_assign rfl) ?_
    refine stEnd (hK _ [(0, _), (1, _), (5, _)] _ _ rfl ?_)
    clear hK K
    refine W.block ?_
    refine W.ord [5, 0, 1] (ts' := [(5, _)] ++ [(0, _), (1, _)]) rfl ?_
    refine W.loopC [(5, _)] [] (fun κ V G μ => ∃ i : Nat, V = [(5, .int .i64 (i : Nat))] ∧ κ = xs.length - i ∧ (i ≤ xs.length) ∧ (∀ j, j < i → at3 xs j = at3 ys j)) _ ⟨0, rfl, rfl, (by first | omega | assumption | rfl | simp_all), (fun j hj => absurd hj (by omega))⟩ fun κ V G μ hinv hμ hkeep hfr => ?_
    obtain ⟨i, rfl, rfl, hi, hq⟩ := hinv
    refine W.seq ?_
    refine W.sR [0, 1, 5, 14] fun K hK => ?_
    refine st rfl rfl (e_move rfl) ?_
    refine st rfl rfl (e_move rfl) ?_
    refine st rfl rfl (e_len t22 rfl) ?_
    refine st rfl rfl (e_lss rfl rfl) ?_
    refine stB (fun hb2 => ?_) (fun hb2 => ?_)
    ·
      try simp only [decide_eq_true_eq, decide_eq_false_iff_not, Bool.not_eq_true', Bool.not_eq_false', Bool.not_eq_true, Bool.not_eq_false] at hb2
      refine stEnd (hK _ [(0, _), (1, _), (5, _), (14, _)] _ _ rfl ?_)
      clear hK K
      refine W.condT rfl ?_
      refine W.skip ?_
      refine thenN ?_
      refine W.seq ?_
      refine W.block ?_
      refine W.sD [0, 1, 5, 26] [0, 0, 3, 7, 0, 0, 48, 112, 255, 511] (by kernel_rfl) (by kernel_rfl) fun K hK => ?_
      refine dP rfl rfl rfl (e_move rfl) ?_
      refine dP rfl rfl rfl (e_move rfl) ?_
      refine dP rfl rfl rfl (e_idxSK _ t22 t62 rfl rfl rfl (by first | omega | decide)) ?_
      refine dL rfl rfl rfl (by omega) (accB_ok rfl) (e_loadP t62 rfl rfl (by repeat (first | exact look_same | assumption | refine look_ne (by omega) ?_ | refine look_keep (by assumption) (by omega) (by simp; try omega) ?_)) (flat_at (by omega))) ?_
      refine dP rfl rfl rfl (e_move rfl) ?_
      refine dP rfl rfl rfl (e_move rfl) ?_
      refine dP rfl rfl rfl (e_idxSK _ t22 t62 rfl rfl rfl (by first | omega | decide)) ?_
      refine dL rfl rfl rfl (by omega) (accB_ok rfl) (e_loadP t62 rfl rfl (by repeat (first | exact look_same | assumption | refine look_ne (by omega) ?_ | refine look_keep (by assumption) (by omega) (by simp; try omega) ?_)) (flat_at (by omega))) ?_
      refine dC rfl rfl rfl rfl (laws_eqIntA3_s _ _ _ _ ) (accB_ok rfl) ?_
      refine dP rfl rfl rfl (e_not rfl) ?_
      refine dB (fun hb3 => ?_) (fun hb3 => ?_)
      ·
        try simp only [decide_eq_true_eq, decide_eq_false_iff_not, Bool.not_eq_true', Bool.not_eq_false', Bool.not_eq_true, Bool.not_eq_false] at hb3
        refine dEnd (hK _ [(0, _), (1, _), (5, _), (26, _)] _ _ rfl ?_)
        clear hK K
        refine W.condT rfl ?_
        refine W.sR [4] fun K hK => ?_
        refine st rfl rfl (e_assign rfl) ?_
        refine stEnd (hK _ [(4, _)] _ _ rfl ?_)
        clear hK K
        refine W.ret ?_
        refine blockR ?_
        refine thenR ?_
        refine thenR ?_
        refine blockR ?_
        refine thenR ?_
        refine ⟨.inr rfl, Ends.v0 (by repeat (first | exact self_old | assumption | refine set_old ?_ (by omega) | refine keep_old (by assumption) ?_ (by omega) (by simp; try omega))) hfresh (by first | rfl | (simp [ltT, ltA, ltC, ltV]; try omega)) (res1 (resT rfl) rfl) ?_⟩
        first | (rw [decide_eq_true (ext3 (by omega) (fun j hj => hq j (by omega)))]) | (congr 1; refine (decide_eq_false ?_).symm; intro e; subst e; first | (exact absurd rfl (by assumption)) | omega)
      ·
        try simp only [decide_eq_true_eq, decide_eq_false_iff_not, Bool.not_eq_true', Bool.not_eq_false', Bool.not_eq_true, Bool.not_eq_false] at hb3
        refine dEnd (hK _ [(0, _), (1, _), (5, _), (26, _)] _ _ rfl ?_)
        clear hK K
        refine W.condF rfl ?_
        refine W.skip ?_
        refine blockN ?_
        refine thenN ?_
        refine W.rR [5, 0, 1] fun K hK => ?_
        refine st rfl rfl (e_move rfl) ?_
        refine st rfl rfl (e_add rfl rfl (inB _ (by omega))) ?_
        refine st rfl rfl (e_assign rfl) ?_
        refine stEnd (hK _ [(5, _), (0, _), (1, _)] _ _ rfl ?_)
        clear hK K
        exact roundN (V' := [(5, _)]) [5, 0, 1] rfl (by omega) (by repeat (first | exact Keeps.refl _ _ _ | assumption | refine Keeps.trans ?_ (by assumption) (by omega) (by simp; try omega) | refine Keeps.set ?_ (by first | exact Or.inl (by omega) | (simp; done) | (simp; omega)) | refine Keeps.del ?_ (by first | exact Or.inl (by omega) | (simp; done) | (simp; omega)) | refine Keeps.delO2 ?_ (by omega))) _ (by omega) ⟨i + 1, rfl, rfl, (by first | omega | assumption | simp_all), (all_succ hq (by assumption))⟩
    ·
      try simp only [decide_eq_true_eq, decide_eq_false_iff_not, Bool.not_eq_true', Bool.not_eq_false', Bool.not_eq_true, Bool.not_eq_false] at hb2
      refine stEnd (hK _ [(0, _), (1, _), (5, _), (14, _)] _ _ rfl ?_)
      clear hK K
      refine W.condF rfl ?_
      refine W.exit ?_
      refine thenE ?_
      refine thenE ?_
      refine blockX ?_
      refine thenN ?_
      refine W.sR [4] fun K hK => ?_
      refine st rfl rfl (e_assign rfl) ?_
      refine stEnd (hK _ [(4, _)] _ _ rfl ?_)
      clear hK K
      refine W.ret ?_
      refine ⟨.inr rfl, Ends.v0 (by repeat (first | exact self_old | assumption | refine set_old ?_ (by omega) | refine keep_old (by assumption) ?_ (by omega) (by simp; try omega))) hfresh (by first | rfl | (simp [ltT, ltA, ltC, ltV]; try omega)) (res1 (resT rfl) rfl) ?_⟩
      first | (rw [decide_eq_true (ext3 (by omega) (fun j hj => hq j (by omega)))]) | (congr 1; refine (decide_eq_false ?_).symm; intro e; subst e; first | (exact absurd rfl (by assumption)) | omega)
theorem laws_eqHeap_s (X Y Z : Int) (b : Nat) (ro : Bool) (cs : List C) (X2 Y2 Z2 : Int) (c : Nat) (ro2 : Bool) (ds : List C) (H : Heap) (n : Nat) (hb : H b = some (.cells ro (flat cs))) (hc : H c = some (.cells ro2 (flat ds))) (hlen : cs.length ≤ 1048576) : Fn Try.prog 17 [.agg #[.int .i64 X, .int .i64 Y, .int .i64 Z, .slice (some ⟨b, 0, none⟩) cs.length 3], .agg #[.int .i64 X2, .int .i64 Y2, .int .i64 Z2, .slice (some ⟨c, 0, none⟩) ds.length 3]] H n (.bool (decide (X = X2 ∧ Y = Y2 ∧ Z = Z2 ∧ cs = ds))) (H) (n) := by
  refine Fn.intro' Try.func17 rfl (by kernel_rfl) Try.ntmps17 (by simp) (by omega) fun hfresh => ?_
  have lt_hb := lt_fresh hfresh hb
  have lt_hc := lt_fresh hfresh hc
  show W _ _ _ ⟨[(0, _), (1, _)], _, _⟩ _
  refine W.sR [2, 3] fun K hK => ?_
  refine st rfl rfl (e_boxA rfl) ?_
  refine st rfl rfl (e_boxA rfl) ?_
  refine st rfl rfl (e_assign rfl) ?_
  refine stEnd (hK _ [(2, _), (3, _)] _ _ rfl ?_)
  clear hK K
  refine W.seq ?_
  refine W.sR [2, 3, 9] fun K hK => ?_
  refine st rfl rfl (e_fieldAddr t28 t3 rfl rfl) ?_
  refine st rfl rfl (e_load1 t3 rfl rfl (by repeat (first | exact look_same | assumption | refine look_ne (by omega) ?_)) rfl) ?_
  refine st rfl rfl (e_fieldAddr t28 t3 rfl rfl) ?_
  refine st rfl rfl (e_load1 t3 rfl rfl (by repeat (first | exact look_same | assumption | refine look_ne (by omega) ?_)) rfl) ?_
  refine st rfl rfl (e_neq rfl rfl) ?_
  refine stB (fun hb1 => ?_) (fun hb1 => ?_)
  ·
    try simp only [decide_eq_true_eq, decide_eq_false_iff_not, Bool.not_eq_true', Bool.not_eq_false', Bool.not_eq_true, Bool.not_eq_false] at hb1
    refine stEnd (hK _ [(2, _), (3, _), (9, _)] _ _ rfl ?_)
    clear hK K
    refine W.condT rfl ?_
    refine W.sR [4] fun K hK => ?_
    refine st rfl rfl (e_assign rfl) ?_
    refine stEnd (hK _ [(4, _)] _ _ rfl ?_)
    clear hK K
    refine W.ret ?_
    refine thenR ?_
    refine ⟨.inr rfl, Ends.v0 (by repeat (first | exact self_old | assumption | refine set_old ?_ (by omega))) hfresh (by first | rfl | (simp [ltT, ltA, ltC, ltV]; try omega)) (res1 (resT rfl) rfl) ?_⟩
    first | simp_all | (simp_all; omega)
  ·
    try simp only [decide_eq_true_eq, decide_eq_false_iff_not, Bool.not_eq_true', Bool.not_eq_false', Bool.not_eq_true, Bool.not_eq_false] at hb1
    refine stEnd (hK _ [(2, _), (3, _), (9, _)] _ _ rfl ?_)
    clear hK K
    refine W.condF rfl ?_
    refine W.skip ?_
    refine thenN ?_
    refine W.seq ?_
    refine W.sR [2, 3, 14] fun K hK => ?_
    refine st rfl rfl (e_fieldAddr t28 t3 rfl rfl) ?_
    refine st rfl rfl (e_load1 t3 rfl rfl (by repeat (first | exact look_same | assumption | refine look_ne (by omega) ?_)) rfl) ?_
    refine st rfl rfl (e_fieldAddr t28 t3 rfl rfl) ?_
    refine st rfl rfl (e_load1 t3 rfl rfl (by repeat (first | exact look_same | assumption | refine look_ne (by omega) ?_)) rfl) ?_
    refine st rfl rfl (e_neq rfl rfl) ?_
    refine stB (fun hb2 => ?_) (fun hb2 => ?_)
    ·
      try simp only [decide_eq_true_eq, decide_eq_false_iff_not, Bool.not_eq_true', Bool.not_eq_false', Bool.not_eq_true, Bool.not_eq_false] at hb2
      refine stEnd (hK _ [(2, _), (3, _), (14, _)] _ _ rfl ?_)
      clear hK K
      refine W.condT rfl ?_
      refine W.sR [4] fun K hK => ?_
      refine st rfl rfl (e_assign rfl) ?_
      refine stEnd (hK _ [(4, _)] _ _ rfl ?_)
      clear hK K
      refine W.ret ?_
      refine thenR ?_
      refine ⟨.inr rfl, Ends.v0 (by repeat (first | exact self_old | assumption | refine set_old ?_ (by omega))) hfresh (by first | rfl | (simp [ltT, ltA, ltC, ltV]; try omega)) (res1 (resT rfl) rfl) ?_⟩
      first | simp_all | (simp_all; omega)
    ·
      try simp only [decide_eq_true_eq, decide_eq_false_iff_not, Bool.not_eq_true', Bool.not_eq_false', Bool.not_eq_true, Bool.not_eq_false] at hb2
      refine stEnd (hK _ [(2, _), (3, _), (14, _)] _ _ rfl ?_)
      clear hK K
      refine W.condF rfl ?_
      refine W.skip ?_
      refine thenN ?_
      refine W.seq ?_
      refine W.sR [2, 3, 19] fun K hK => ?_
      refine st rfl rfl (e_fieldAddr t28 t3 rfl rfl) ?_
      refine st rfl rfl (e_load1 t3 rfl rfl (by repeat (first | exact look_same | assumption | refine look_ne (by omega) ?_)) rfl) ?_
      refine st rfl rfl (e_fieldAddr t28 t3 rfl rfl) ?_
      refine st rfl rfl (e_load1 t3 rfl rfl (by repeat (first | exact look_same | assumption | refine look_ne (by omega) ?_)) rfl) ?_
      refine st rfl rfl (e_neq rfl rfl) ?_
      refine stB (fun hb3 => ?_) (fun hb3 => ?_)
      ·
        try simp only [decide_eq_true_eq, decide_eq_false_iff_not, Bool.not_eq_true', Bool.not_eq_false', Bool.not_eq_true, Bool.not_eq_false] at hb3
        refine stEnd (hK _ [(2, _), (3, _), (19, _)] _ _ rfl ?_)
        clear hK K
        refine W.condT rfl ?_
        refine W.sR [4] fun K hK => ?_
        refine st rfl rfl (e_assign rfl) ?_
        refine stEnd (hK _ [(4, _)] _ _ rfl ?_)
        clear hK K
        refine W.ret ?_
        refine thenR ?_
        refine ⟨.inr rfl, Ends.v0 (by repeat (first | exact self_old | assumption | refine set_old ?_ (by omega))) hfresh (by first | rfl | (simp [ltT, ltA, ltC, ltV]; try omega)) (res1 (resT rfl) rfl) ?_⟩
        first | simp_all | (simp_all; omega)
      ·
        try simp only [decide_eq_true_eq, decide_eq_false_iff_not, Bool.not_eq_true', Bool.not_eq_false', Bool.not_eq_true, Bool.not_eq_false] at hb3
        refine stEnd (hK _ [(2, _), (3, _), (19, _)] _ _ rfl ?_)
        clear hK K
        refine W.condF rfl ?_
        refine W.skip ?_
        refine thenN ?_
        refine W.seq ?_
        refine W.sR [25] fun K hK => ?_
        refine st rfl rfl (e_fieldAddr t28 t22 rfl rfl) ?_
        refine st rfl rfl (e_load1 t22 rfl rfl (by repeat (first | exact look_same | assumption | refine look_ne (by omega) ?_)) rfl) ?_
        refine st rfl rfl (e_fieldAddr t28 t22 rfl rfl) ?_
        refine st rfl rfl (e_load1 t22 rfl rfl (by repeat (first | exact look_same | assumption | refine look_ne (by omega) ?_)) rfl) ?_
        refine stC rfl rfl rfl (laws_eqIntA3S_s _ _ _ _ _ _ _ _ (by repeat (first | exact look_same | assumption | refine look_ne (by omega) ?_)) (by repeat (first | exact look_same | assumption | refine look_ne (by omega) ?_)) (by omega)) ?_
        refine st rfl rfl (e_not rfl) ?_
        refine stB (fun hb4 => ?_) (fun hb4 => ?_)
        ·
          try simp only [decide_eq_true_eq, decide_eq_false_iff_not, Bool.not_eq_true', Bool.not_eq_false', Bool.not_eq_true, Bool.not_eq_false] at hb4
          refine stEnd (hK _ [(25, _)] _ _ rfl ?_)
          clear hK K
          refine W.condT rfl ?_
          refine W.sR [4] fun K hK => ?_
          refine st rfl rfl (e_assign rfl) ?_
          refine stEnd (hK _ [(4, _)] _ _ rfl ?_)
          clear hK K
          refine W.ret ?_
          refine thenR ?_
          refine ⟨.inr rfl, Ends.v0 (by repeat (first | exact self_old | assumption | refine set_old ?_ (by omega))) hfresh (by first | rfl | (simp [ltT, ltA, ltC, ltV]; try omega)) (res1 (resT rfl) rfl) ?_⟩
          first | simp_all | (simp_all; omega)
        ·
          try simp only [decide_eq_true_eq, decide_eq_false_iff_not, Bool.not_eq_true', Bool.not_eq_false', Bool.not_eq_true, Bool.not_eq_false] at hb4
          refine stEnd (hK _ [(25, _)] _ _ rfl ?_)
          clear hK K
          refine W.condF rfl ?_
          refine W.skip ?_
          refine thenN ?_
          refine W.sR [4] fun K hK => ?_
          refine st rfl rfl (e_assign rfl) ?_
          refine stEnd (hK _ [(4, _)] _ _ rfl ?_)
          clear hK K
          refine W.ret ?_
          refine ⟨.inr rfl, Ends.v0 (by repeat (first | exact self_old | assumption | refine set_old ?_ (by omega))) hfresh (by first | rfl | (simp [ltT, ltA, ltC, ltV]; try omega)) (res1 (resT rfl) rfl) ?_⟩
          first | simp_all | (simp_all; omega)
theorem laws_markIntA3S_s (b m : Nat) (vs : List Value) (k : Int) (H : Heap) (n : Nat) (hb : H b = some (.cells false vs)) (hl : vs.length = 3 * m) (hp : vs.all plainA = true) (hk : (0 ≤ k ∧ k ≤ 1099511627776) ∧ m ≤ 1073741824) : Fn Try.prog 54 [.slice (some ⟨b, 0, none⟩) m 3, .int .i64 k] H n (.int .i64 (k + 3 * (m : Int))) (H.set b (.cells false (markV k (3 * m) vs))) (n) := by
  refine Fn.intro' Try.func54 rfl (by kernel_rfl) Try.ntmps54 (by simp) (by omega) fun hfresh => ?_
  have lt_hb := lt_fresh hfresh hb
  show W _ _ _ ⟨[(0, _), (1, _)], _, _⟩ _
  refine W.sR [0, 1] fun K hK => ?_
  refine st rfl rfl (e_assign rfl) ?_
  refine stEnd (hK _ [(0, _), (1, _)] _ _ rfl ?_)
  clear hK K
  refine W.seq ?_
  refine W.sR [0, 1, 5] fun K hK => ?_
  refine st rfl rfl (e_assign rfl) ?_
  refine stEnd (hK _ [(0, _), (1, _), (5, _)] _ _ rfl ?_)
  clear hK K
  refine W.block ?_
  refine W.ord [1, 5, 0] (ts' := [(1, _), (5, _)] ++ [(0, _)]) rfl ?_
  refine W.loopC [(1, _), (5, _)] [b] (fun κ V G μ => ∃ i : Nat, V = [(1, .int .i64 (k + 3 * (i : Int))), (5, .int .i64 (i : Nat))] ∧ κ = m - i ∧ (i ≤ m) ∧ (G b = some (.cells false (markV k (3 * i) vs)))) _ ⟨0, (by simp), rfl, (by first | omega | assumption | rfl | simp_all), (by rw [Nat.mul_zero, markV_zero]; exact (by repeat (first | exact look_same | assumption | refine look_ne (by omega) ?_ | refine look_keep (by assumption) (by omega) (by simp; try omega) ?_)))⟩ fun κ V G μ hinv hμ hkeep hfr => ?_
  obtain ⟨i, rfl, rfl, hi, hG⟩ := hinv
  refine W.seq ?_
  refine W.sR [0, 1, 5, 10] fun K hK => ?_
  refine st rfl rfl (e_move rfl) ?_
  refine st rfl rfl (e_move rfl) ?_
  refine st rfl rfl (e_len t22 rfl) ?_
  refine st rfl rfl (e_lss rfl rfl) ?_
  refine stB (fun hb1 => ?_) (fun hb1 => ?_)
  ·
    try simp only [decide_eq_true_eq, decide_eq_false_iff_not, Bool.not_eq_true', Bool.not_eq_false', Bool.not_eq_true, Bool.not_eq_false] at hb1
    refine stEnd (hK _ [(0, _), (1, _), (5, _), (10, _)] _ _ rfl ?_)
    clear hK K
    refine W.condT rfl ?_
    refine W.skip ?_
    refine thenN ?_
    refine W.seq ?_
    refine W.block ?_
    refine W.sR [0, 1, 5, 6] fun K hK => ?_
    refine st rfl rfl (e_assign rfl) ?_
    refine stEnd (hK _ [(0, _), (1, _), (5, _), (6, _)] _ _ rfl ?_)
    clear hK K
    refine W.block ?_
    refine W.ord [1, 6, 0, 5] (ts' := [(1, _), (6, _)] ++ [(0, _), (5, _)]) rfl ?_
    refine W.loopC [(1, _), (6, _)] [b] (fun κ V G μ => ∃ j : Nat, V = [(1, .int .i64 (k + 3 * (i : Int) + (j : Int))), (6, .int .i64 (j : Nat))] ∧ κ = 3 - j ∧ (j ≤ 3) ∧ (G b = some (.cells false (markV k (3 * i + j) vs)))) _ ⟨0, (by simp), rfl, (by first | omega | assumption | rfl | simp_all), (by exact hG)⟩ fun κ V G μ hinv hμ hkeep hfr => ?_
    obtain ⟨j, rfl, rfl, hj, hG2⟩ := hinv
    refine W.seq ?_
    refine W.sR [0, 1, 5, 6, 14] fun K hK => ?_
    refine st rfl rfl (e_move rfl) ?_
    refine st rfl rfl (e_lss rfl rfl) ?_
    refine stB (fun hb2 => ?_) (fun hb2 => ?_)
    ·
      try simp only [decide_eq_true_eq, decide_eq_false_iff_not, Bool.not_eq_true', Bool.not_eq_false', Bool.not_eq_true, Bool.not_eq_false] at hb2
      refine stEnd (hK _ [(0, _), (1, _), (5, _), (6, _), (14, _)] _ _ rfl ?_)
      clear hK K
      refine W.condT rfl ?_
      refine W.skip ?_
      refine thenN ?_
      refine W.seq ?_
      refine W.block ?_
      refine W.sR [0, 1, 5, 6] fun K hK => ?_
      refine st rfl rfl (e_move rfl) ?_
      refine st rfl rfl (e_move rfl) ?_
      refine st rfl rfl (e_move rfl) ?_
      refine st rfl rfl (e_move rfl) ?_
      refine st rfl rfl (e_idxSK _ t22 t62 rfl rfl rfl (by first | omega | decide)) ?_
      refine st rfl rfl (e_idxAK _ t62 t3 rfl rfl rfl (by first | omega | decide)) ?_
      refine stN rfl (e_store1 t3 rfl rfl rfl (by repeat (first | exact look_same | assumption | refine look_ne (by omega) ?_ | refine look_keep (by assumption) (by omega) (by simp; try omega) ?_)) (by rw [markV_length (by omega)]; omega)) ?_
      refine stEnd (hK _ [(0, _), (1, _), (5, _), (6, _)] _ _ rfl ?_)
      clear hK K
      refine W.rR [0, 1, 5, 6] fun K hK => ?_
      refine st rfl rfl (e_move rfl) ?_
      refine st rfl rfl (e_add rfl rfl (inB _ (by omega))) ?_
      refine st rfl rfl (e_assign rfl) ?_
      refine stEnd (hK _ [(0, _), (1, _), (5, _), (6, _)] _ _ rfl ?_)
      clear hK K
      refine blockN ?_
      refine thenN ?_
      refine W.rR [1, 6, 0, 5] fun K hK => ?_
      refine st rfl rfl (e_move rfl) ?_
      refine st rfl rfl (e_add rfl rfl (inB _ (by omega))) ?_
      refine st rfl rfl (e_assign rfl) ?_
      refine stEnd (hK _ [(1, _), (6, _), (0, _), (5, _)] _ _ rfl ?_)
      clear hK K
      exact roundN (V' := [(1, _), (6, _)]) [1, 6, 0, 5] rfl (by omega) (by repeat (first | exact Keeps.refl _ _ _ | assumption | refine Keeps.trans ?_ (by assumption) (by omega) (by simp; try omega) | refine Keeps.set ?_ (by first | exact Or.inl (by omega) | (simp; done) | (simp; omega)) | refine Keeps.del ?_ (by first | exact Or.inl (by omega) | (simp; done) | (simp; omega)) | refine Keeps.delO2 ?_ (by omega))) _ (by omega) ⟨j + 1, (by simp <;> omega), rfl, (by first | omega | assumption | simp_all), (look_same.trans (congrArg some (congrArg (Blk.cells false) (by rw [show 0 + i * 3 + j * 1 = 3 * i + j by omega]; exact markV_set (by omega) (by simp <;> omega)))))⟩
    ·
      try simp only [decide_eq_true_eq, decide_eq_false_iff_not, Bool.not_eq_true', Bool.not_eq_false', Bool.not_eq_true, Bool.not_eq_false] at hb2
      refine stEnd (hK _ [(0, _), (1, _), (5, _), (6, _), (14, _)] _ _ rfl ?_)
      clear hK K
      refine W.condF rfl ?_
      refine W.exit ?_
      refine thenE ?_
      refine thenE ?_
      refine blockX ?_
      refine blockN ?_
      refine thenN ?_
      refine W.rR [1, 5, 0] fun K hK => ?_
      refine st rfl rfl (e_move rfl) ?_
      refine st rfl rfl (e_add rfl rfl (inB _ (by omega))) ?_
      refine st rfl rfl (e_assign rfl) ?_
      refine stEnd (hK _ [(1, _), (5, _), (0, _)] _ _ rfl ?_)
      clear hK K
      exact roundN (V' := [(1, _), (5, _)]) [1, 5, 0] rfl (by omega) (by repeat (first | exact Keeps.refl _ _ _ | assumption | refine Keeps.trans ?_ (by assumption) (by omega) (by simp; try omega) | refine Keeps.set ?_ (by first | exact Or.inl (by omega) | (simp; done) | (simp; omega)) | refine Keeps.del ?_ (by first | exact Or.inl (by omega) | (simp; done) | (simp; omega)) | refine Keeps.delO2 ?_ (by omega))) _ (by omega) ⟨i + 1, (by simp <;> omega), rfl, (by first | omega | assumption | simp_all), (by cases (show j = 3 from by omega); exact hG2)⟩
  ·
    try simp only [decide_eq_true_eq, decide_eq_false_iff_not, Bool.not_eq_true', Bool.not_eq_false', Bool.not_eq_true, Bool.not_eq_false] at hb1
    refine stEnd (hK _ [(0, _), (1, _), (5, _), (10, _)] _ _ rfl ?_)
    clear hK K
    refine W.condF rfl ?_
    refine W.exit ?_
    refine thenE ?_
    refine thenE ?_
    refine blockX ?_
    refine thenN ?_
    refine W.sR [4] fun K hK => ?_
    refine st rfl rfl (e_move rfl) ?_
    refine st rfl rfl (e_assign rfl) ?_
    refine stEnd (hK _ [(4, _)] _ _ rfl ?_)
    clear hK K
    refine W.ret ?_
    refine ⟨.inr rfl, Ends.vU (by omega) (by repeat (first | exact OldBut.self | assumption | refine OldBut.set ?_ (by first | exact Or.inl (by omega) | (simp; done) | (simp; omega)) | refine OldBut.keep (by assumption) ?_ (by omega) (by simp; try omega))) hfresh (by repeat (first | exact look_same | assumption | refine look_ne (by omega) ?_ | refine look_keep (by assumption) (by omega) (by simp; try omega) ?_)) ?_ (markV_plain hp) (by first | rfl | (simp [ltT, ltA, ltC, ltV]; try omega)) (res1 (resT rfl) rfl) ?_⟩
    · (obtain rfl : i = m := by omega); rfl
    · (obtain rfl : i = m := by omega); rfl
theorem laws_markHeap_s (X Y Z : Int) (b m : Nat) (vs : List Value) (k : Int) (H : Heap) (n : Nat) (hb : H b = some (.cells false vs)) (hl : vs.length = 3 * m) (hp : vs.all plainA = true) (hk : (0 ≤ k ∧ k ≤ 1099511627776) ∧ m ≤ 1073741824) : Fn Try.prog 21 [.agg #[.int .i64 X, .int .i64 Y, .int .i64 Z, .slice (some ⟨b, 0, none⟩) m 3], .int .i64 k] H n (.int .i64 (k + 3 * (m : Int))) (H.set b (.cells false (markV k (3 * m) vs))) (n) := by
  refine Fn.intro' Try.func21 rfl (by kernel_rfl) Try.ntmps21 (by simp) (by omega) fun hfresh => ?_
  have lt_hb := lt_fresh hfresh hb
  show W _ _ _ ⟨[(0, _), (1, _)], _, _⟩ _
  refine W.sR [1, 2] fun K hK => ?_
  refine st rfl rfl (e_boxA rfl) ?_
  refine st rfl rfl (e_assign rfl) ?_
  refine stEnd (hK _ [(1, _), (2, _)] _ _ rfl ?_)
  clear hK K
  refine W.sR [1] fun K hK => ?_
  refine st rfl rfl (e_fieldAddr t28 t22 rfl rfl) ?_
  refine st rfl rfl (e_load1 t22 rfl rfl (by repeat (first | exact look_same | assumption | refine look_ne (by omega) ?_)) rfl) ?_
  refine st rfl rfl (e_move rfl) ?_
  refine stC rfl rfl rfl (laws_markIntA3S_s _ _ _ _ _ _ (by repeat (first | exact look_same | assumption | refine look_ne (by omega) ?_)) (by first | (rw [flat_length]; omega) | simp | omega) (by first | assumption | exact ints_plain _ | exact flat_plain _) (by omega)) ?_
  refine st rfl rfl (e_assign rfl) ?_
  refine stEnd (hK _ [(1, _)] _ _ rfl ?_)
  clear hK K
  refine W.sR [4] fun K hK => ?_
  refine st rfl rfl (e_move rfl) ?_
  refine st rfl rfl (e_assign rfl) ?_
  refine stEnd (hK _ [(4, _)] _ _ rfl ?_)
  clear hK K
  refine W.ret ?_
  refine ⟨.inr rfl, Ends.vU (by omega) (by repeat (first | exact OldBut.self | assumption | refine OldBut.set ?_ (by first | exact Or.inl (by omega) | (simp; done) | (simp; omega)) | refine OldBut.keep (by assumption) ?_ (by omega) (by simp; try omega))) hfresh (by repeat (first | exact look_same | assumption | refine look_ne (by omega) ?_)) ?_ (markV_plain hp) (by first | rfl | (simp [ltT, ltA, ltC, ltV]; try omega)) (res1 (resT rfl) rfl) ?_⟩
  · rfl
  · rfl
theorem laws_heldIntA3S_s (b m : Nat) (ro : Bool) (cs : List C) (k : Int) (H : Heap) (n : Nat) (hb : H b = some (.cells ro (flat cs))) (hl : cs.length = m) (hk : (0 ≤ k ∧ k ≤ 1099511627776) ∧ m ≤ 1073741824) : Fn Try.prog 60 [.slice (some ⟨b, 0, none⟩) m 3, .int .i64 k] H n (.int .i64 (heldC k cs)) (H) (n) := by
  refine Fn.intro' Try.func60 rfl (by kernel_rfl) Try.ntmps60 (by simp) (by omega) fun hfresh => ?_
  have lt_hb := lt_fresh hfresh hb
  subst hl
  show W _ _ _ ⟨[(0, _), (1, _)], _, _⟩ _
  refine W.sR [0, 1] fun K hK => ?_
  refine st rfl rfl (e_assign rfl) ?_
  refine stEnd (hK _ [(0, _), (1, _)] _ _ rfl ?_)
  clear hK K
  refine W.seq ?_
  refine W.sR [0, 1, 5] fun K hK => ?_
  refine st rfl rfl (e_assign rfl) ?_
  refine stEnd (hK _ [(0, _), (1, _), (5, _)] _ _ rfl ?_)
  clear hK K
  refine W.block ?_
  refine W.ord [1, 5, 0] (ts' := [(1, _), (5, _)] ++ [(0, _)]) rfl ?_
  refine W.loopC [(1, _), (5, _)] [] (fun κ V G μ => ∃ i : Nat, V = [(1, .int .i64 (k + 3 * (i : Int))), (5, .int .i64 (i : Nat))] ∧ κ = cs.length - i ∧ (i ≤ cs.length) ∧ (∀ p, p < i → ∀ j, j < 3 → ci (at3 cs p) j = k + 3 * (p : Int) + (j : Int))) _ ⟨0, (by simp), rfl, (by first | omega | assumption | rfl | simp_all), (fun p hp => absurd hp (by omega))⟩ fun κ V G μ hinv hμ hkeep hfr => ?_
  obtain ⟨i, rfl, rfl, hi, hq⟩ := hinv
  refine W.seq ?_
  refine W.sR [0, 1, 5, 10] fun K hK => ?_
  refine st rfl rfl (e_move rfl) ?_
  refine st rfl rfl (e_move rfl) ?_
  refine st rfl rfl (e_len t22 rfl) ?_
  refine st rfl rfl (e_lss rfl rfl) ?_
  refine stB (fun hb1 => ?_) (fun hb1 => ?_)
  ·
    try simp only [decide_eq_true_eq, decide_eq_false_iff_not, Bool.not_eq_true', Bool.not_eq_false', Bool.not_eq_true, Bool.not_eq_false] at hb1
    refine stEnd (hK _ [(0, _), (1, _), (5, _), (10, _)] _ _ rfl ?_)
    clear hK K
    refine W.condT rfl ?_
    refine W.skip ?_
    refine thenN ?_
    refine W.seq ?_
    refine W.block ?_
    refine W.sR [0, 1, 5, 6] fun K hK => ?_
    refine st rfl rfl (e_assign rfl) ?_
    refine stEnd (hK _ [(0, _), (1, _), (5, _), (6, _)] _ _ rfl ?_)
    clear hK K
    refine W.block ?_
    refine W.ord [1, 6, 0, 5] (ts' := [(1, _), (6, _)] ++ [(0, _), (5, _)]) rfl ?_
    refine W.loopC [(1, _), (6, _)] [] (fun κ V G μ => ∃ j : Nat, V = [(1, .int .i64 (k + 3 * (i : Int) + (j : Int))), (6, .int .i64 (j : Nat))] ∧ κ = 3 - j ∧ (j ≤ 3) ∧ (∀ q, q < j → ci (at3 cs i) q = k + 3 * (i : Int) + (q : Int))) _ ⟨0, (by simp), rfl, (by first | omega | assumption | rfl | simp_all), (fun p hp => absurd hp (by omega))⟩ fun κ V G μ hinv hμ hkeep hfr => ?_
    obtain ⟨j, rfl, rfl, hj, hq2⟩ := hinv
    refine W.seq ?_
    refine W.sR [0, 1, 5, 6, 14] fun K hK => ?_
    refine st rfl rfl (e_move rfl) ?_
    refine st rfl rfl (e_lss rfl rfl) ?_
    refine stB (fun hb2 => ?_) (fun hb2 => ?_)
    ·
      try simp only [decide_eq_true_eq, decide_eq_false_iff_not, Bool.not_eq_true', Bool.not_eq_false', Bool.not_eq_true, Bool.not_eq_false] at hb2
      refine stEnd (hK _ [(0, _), (1, _), (5, _), (6, _), (14, _)] _ _ rfl ?_)
      clear hK K
      refine W.condT rfl ?_
      refine W.skip ?_
      refine thenN ?_
      refine W.seq ?_
      refine W.block ?_
      refine W.seq ?_
      refine W.sR [0, 1, 5, 6, 24] fun K hK => ?_
      refine st rfl rfl (e_move rfl) ?_
      refine st rfl rfl (e_move rfl) ?_
      refine st rfl rfl (e_move rfl) ?_
      refine st rfl rfl (e_idxSK _ t22 t62 rfl rfl rfl (by first | omega | decide)) ?_
      refine st rfl rfl (e_idxAK _ t62 t3 rfl rfl rfl (by first | omega | decide)) ?_
      refine st rfl rfl (e_load1 t3 rfl rfl (by repeat (first | exact look_same | assumption | refine look_ne (by omega) ?_ | refine look_keep (by assumption) (by omega) (by simp; try omega) ?_)) (by first | exact (flat_get (by omega) (by omega)).trans rfl | exact flat_getJ (by omega) (by omega))) ?_
      refine st rfl rfl (e_move rfl) ?_
      refine st rfl rfl (e_neq rfl rfl) ?_
      refine stB (fun hb3 => ?_) (fun hb3 => ?_)
      ·
        try simp only [decide_eq_true_eq, decide_eq_false_iff_not, Bool.not_eq_true', Bool.not_eq_false', Bool.not_eq_true, Bool.not_eq_false] at hb3
        refine stEnd (hK _ [(0, _), (1, _), (5, _), (6, _), (24, _)] _ _ rfl ?_)
        clear hK K
        refine W.condT rfl ?_
        refine W.sR [4] fun K hK => ?_
        refine st rfl rfl (e_assign rfl) ?_
        refine stEnd (hK _ [(4, _)] _ _ rfl ?_)
        clear hK K
        refine W.ret ?_
        refine thenR ?_
        refine blockR ?_
        refine thenR ?_
        refine thenR ?_
        refine blockR ?_
        refine blockR ?_
        refine thenR ?_
        refine thenR ?_
        refine blockR ?_
        refine thenR ?_
        refine ⟨.inr rfl, Ends.v0 (by repeat (first | exact self_old | assumption | refine set_old ?_ (by omega) | refine keep_old (by assumption) ?_ (by omega) (by simp; try omega))) hfresh (by first | rfl | (simp [ltT, ltA, ltC, ltV]; try omega)) (res1 (resT rfl) rfl) ?_⟩
        first | rw [heldC_no (i := i) (j := j) (by omega) (by omega) (by assumption)] | (rw [heldC_yes (fun p hp => hq p (by omega))]; congr 2; omega)
      ·
        try simp only [decide_eq_true_eq, decide_eq_false_iff_not, Bool.not_eq_true', Bool.not_eq_false', Bool.not_eq_true, Bool.not_eq_false] at hb3
        refine stEnd (hK _ [(0, _), (1, _), (5, _), (6, _), (24, _)] _ _ rfl ?_)
        clear hK K
        refine W.condF rfl ?_
        refine W.skip ?_
        refine thenN ?_
        refine W.rR [0, 1, 5, 6] fun K hK => ?_
        refine st rfl rfl (e_move rfl) ?_
        refine st rfl rfl (e_add rfl rfl (inB _ (by omega))) ?_
        refine st rfl rfl (e_assign rfl) ?_
        refine stEnd (hK _ [(0, _), (1, _), (5, _), (6, _)] _ _ rfl ?_)
        clear hK K
        refine blockN ?_
        refine thenN ?_
        refine W.rR [1, 6, 0, 5] fun K hK => ?_
        refine st rfl rfl (e_move rfl) ?_
        refine st rfl rfl (e_add rfl rfl (inB _ (by omega))) ?_
        refine st rfl rfl (e_assign rfl) ?_
        refine stEnd (hK _ [(1, _), (6, _), (0, _), (5, _)] _ _ rfl ?_)
        clear hK K
        exact roundN (V' := [(1, _), (6, _)]) [1, 6, 0, 5] rfl (by omega) (by repeat (first | exact Keeps.refl _ _ _ | assumption | refine Keeps.trans ?_ (by assumption) (by omega) (by simp; try omega) | refine Keeps.set ?_ (by first | exact Or.inl (by omega) | (simp; done) | (simp; omega)) | refine Keeps.del ?_ (by first | exact Or.inl (by omega) | (simp; done) | (simp; omega)) | refine Keeps.delO2 ?_ (by omega))) _ (by omega) ⟨j + 1, (by simp <;> omega), rfl, (by first | omega | assumption | simp_all), (all_succ hq2 (by assumption))⟩
    ·
      try simp only [decide_eq_true_eq, decide_eq_false_iff_not, Bool.not_eq_true', Bool.not_eq_false', Bool.not_eq_true, Bool.not_eq_false] at hb2
      refine stEnd (hK _ [(0, _), (1, _), (5, _), (6, _), (14, _)] _ _ rfl ?_)
      clear hK K
      refine W.condF rfl ?_
      refine W.exit ?_
      refine thenE ?_
      refine thenE ?_
      refine blockX ?_
      refine blockN ?_
      refine thenN ?_
      refine W.rR [1, 5, 0] fun K hK => ?_
      refine st rfl rfl (e_move rfl) ?_
      refine st rfl rfl (e_add rfl rfl (inB _ (by omega))) ?_
      refine st rfl rfl (e_assign rfl) ?_
      refine stEnd (hK _ [(1, _), (5, _), (0, _)] _ _ rfl ?_)
      clear hK K
      exact roundN (V' := [(1, _), (5, _)]) [1, 5, 0] rfl (by omega) (by repeat (first | exact Keeps.refl _ _ _ | assumption | refine Keeps.trans ?_ (by assumption) (by omega) (by simp; try omega) | refine Keeps.set ?_ (by first | exact Or.inl (by omega) | (simp; done) | (simp; omega)) | refine Keeps.del ?_ (by first | exact Or.inl (by omega) | (simp; done) | (simp; omega)) | refine Keeps.delO2 ?_ (by omega))) _ (by omega) ⟨i + 1, (by simp <;> omega), rfl, (by first | omega | assumption | simp_all), (all_succ hq (fun j2 hj2 => hq2 j2 (by omega)))⟩
  ·
    try simp only [decide_eq_true_eq, decide_eq_false_iff_not, Bool.not_eq_true', Bool.not_eq_false', Bool.not_eq_true, Bool.not_eq_false] at hb1
    refine stEnd (hK _ [(0, _), (1, _), (5, _), (10, _)] _ _ rfl ?_)
    clear hK K
    refine W.condF rfl ?_
    refine W.exit ?_
    refine thenE ?_
    refine thenE ?_
    refine blockX ?_
    refine thenN ?_
    refine W.sR [4] fun K hK => ?_
    refine st rfl rfl (e_move rfl) ?_
    refine st rfl rfl (e_assign rfl) ?_
    refine stEnd (hK _ [(4, _)] _ _ rfl ?_)
    clear hK K
    refine W.ret ?_
    refine ⟨.inr rfl, Ends.v0 (by repeat (first | exact self_old | assumption | refine set_old ?_ (by omega) | refine keep_old (by assumption) ?_ (by omega) (by simp; try omega))) hfresh (by first | rfl | (simp [ltT, ltA, ltC, ltV]; try omega)) (res1 (resT rfl) rfl) ?_⟩
    first | rw [heldC_no (i := i) (j := j) (by omega) (by omega) (by assumption)] | (rw [heldC_yes (fun p hp => hq p (by omega))]; congr 2; omega)
theorem laws_heldHeap_s (X Y Z : Int) (b m : Nat) (ro : Bool) (cs : List C) (k : Int) (H : Heap) (n : Nat) (hb : H b = some (.cells ro (flat cs))) (hl : cs.length = m) (hk : (0 ≤ k ∧ k ≤ 1099511627776) ∧ m ≤ 1073741824) : Fn Try.prog 34 [.agg #[.int .i64 X, .int .i64 Y, .int .i64 Z, .slice (some ⟨b, 0, none⟩) m 3], .int .i64 k] H n (.int .i64 (heldC k cs)) (H) (n) := by
  refine Fn.intro' Try.func34 rfl (by kernel_rfl) Try.ntmps34 (by simp) (by omega) fun hfresh => ?_
  have lt_hb := lt_fresh hfresh hb
  show W _ _ _ ⟨[(0, _), (1, _)], _, _⟩ _
  refine W.sR [1, 2] fun K hK => ?_
  refine st rfl rfl (e_boxA rfl) ?_
  refine st rfl rfl (e_assign rfl) ?_
  refine stEnd (hK _ [(1, _), (2, _)] _ _ rfl ?_)
  clear hK K
  refine W.sR [1] fun K hK => ?_
  refine st rfl rfl (e_fieldAddr t28 t22 rfl rfl) ?_
  refine st rfl rfl (e_load1 t22 rfl rfl (by repeat (first | exact look_same | assumption | refine look_ne (by omega) ?_)) rfl) ?_
  refine st rfl rfl (e_move rfl) ?_
  refine stC rfl rfl rfl (laws_heldIntA3S_s _ _ _ _ _ _ _ (by repeat (first | exact look_same | assumption | refine look_ne (by omega) ?_)) (by first | assumption | rfl | exact markC_length _ _ | simp) (by omega)) ?_
  refine st rfl rfl (e_assign rfl) ?_
  refine stEnd (hK _ [(1, _)] _ _ rfl ?_)
  clear hK K
  refine W.seq ?_
  refine W.sR [1, 10] fun K hK => ?_
  refine st rfl rfl (e_move rfl) ?_
  refine st rfl rfl (e_lss rfl rfl) ?_
  refine stB (fun hb1 => ?_) (fun hb1 => ?_)
  ·
    try simp only [decide_eq_true_eq, decide_eq_false_iff_not, Bool.not_eq_true', Bool.not_eq_false', Bool.not_eq_true, Bool.not_eq_false] at hb1
    refine stEnd (hK _ [(1, _), (10, _)] _ _ rfl ?_)
    clear hK K
    refine W.condT rfl ?_
    refine W.sR [4] fun K hK => ?_
    refine st rfl rfl (e_assign rfl) ?_
    refine stEnd (hK _ [(4, _)] _ _ rfl ?_)
    clear hK K
    refine W.ret ?_
    refine thenR ?_
    refine ⟨.inr rfl, Ends.v0 (by repeat (first | exact self_old | assumption | refine set_old ?_ (by omega))) hfresh (by first | rfl | (simp [ltT, ltA, ltC, ltV]; try omega)) (res1 (resT rfl) rfl) ?_⟩
    first | rfl | (congr 1; have := heldC_bd (k := k) (cs := cs) (by omega); omega)
  ·
    try simp only [decide_eq_true_eq, decide_eq_false_iff_not, Bool.not_eq_true', Bool.not_eq_false', Bool.not_eq_true, Bool.not_eq_false] at hb1
    refine stEnd (hK _ [(1, _), (10, _)] _ _ rfl ?_)
    clear hK K
    refine W.condF rfl ?_
    refine W.skip ?_
    refine thenN ?_
    refine W.sR [4] fun K hK => ?_
    refine st rfl rfl (e_move rfl) ?_
    refine st rfl rfl (e_assign rfl) ?_
    refine stEnd (hK _ [(4, _)] _ _ rfl ?_)
    clear hK K
    refine W.ret ?_
    refine ⟨.inr rfl, Ends.v0 (by repeat (first | exact self_old | assumption | refine set_old ?_ (by omega))) hfresh (by first | rfl | (simp [ltT, ltA, ltC, ltV]; try omega)) (res1 (resT rfl) rfl) ?_⟩
    first | rfl | (congr 1; have := heldC_bd (k := k) (cs := cs) (by omega); omega)
set_option maxHeartbeats 1600000 in
theorem laws_FnExactDoSwitch_ok (X Y Z : Int) (sv : Value) (cs : List C) (r : Nat) (p q : Nat) (c : C) (d e : Int) (H : Heap) (n : Nat) (hr : RowC H r sv cs) (hrn : r ≤ n) (hlen : cs.length ≤ 1048576) (hh : isHeap X Y Z cs = true) (hp : p < 3) (hq : q < 3) (hpq : p ≠ q) (hsw : swB X Y Z cs c p q d e = true) : Fn Try.prog 7 [.agg #[.int .i64 X, .int .i64 Y, .int .i64 Z, sv], .int .i64 (p : Nat), .int .i64 (q : Nat), .agg #[.int .i64 c.1, .int .i64 c.2.1, .int .i64 c.2.2, .int .i64 d, .int .i64 e]] H n (.bool true) (H) (n) := by
  refine Fn.intro' Try.func7 rfl (by kernel_rfl) Try.ntmps7 (by simp) (by omega) fun hfresh => ?_
  obtain ⟨sp0, se0, rfl⟩ := hr.form
  have hv := valid_of hh
  have hX := hv.box
  have hvl := vol_le hX
  have hcl := hv.len_vol
  have hR := sw_rect hp hq hpq hX hsw
  have hsl := swL_len (cs := cs) (c := c) (p := p) (q := q) (d := d) (e := e) 4
  show W _ _ _ ⟨[(0, _), (1, _), (2, _), (3, _)], _, _⟩ _
  refine W.sR [1, 2, 4, 7] fun K hK => ?_
  refine st rfl rfl (e_boxA rfl) ?_
  refine st rfl rfl (e_boxA rfl) ?_
  refine st rfl rfl (e_assign rfl) ?_
  refine stEnd (hK _ [(1, _), (2, _), (4, _), (7, _)] _ _ rfl ?_)
  clear hK K
  refine W.sR [1, 2, 4, 7, 9] fun K hK => ?_
  refine st rfl rfl (e_assign rfl) ?_
  refine stEnd (hK _ [(1, _), (2, _), (4, _), (7, _), (9, _)] _ _ rfl ?_)
  clear hK K
  refine W.sR [1, 2, 4, 7, 9] fun K hK => ?_
  refine st rfl rfl (e_loadA t24 rfl rfl (by repeat (first | exact look_same | assumption | refine look_ne (by omega) ?_)) rfl rfl) ?_
  refine st rfl rfl (e_move rfl) ?_
  refine stC rfl rfl rfl (laws_szHeap_s _ _ _ _ _ _ _ _ _ (by omega)) ?_
  rw [if_neg (by omega)]
  refine st rfl rfl (e_assign rfl) ?_
  refine stEnd (hK _ [(1, _), (2, _), (4, _), (7, _), (9, _)] _ _ rfl ?_)
  clear hK K
  refine W.seq ?_
  refine W.sR [1, 2, 4, 7, 24] fun K hK => ?_
  refine st rfl rfl (e_move rfl) ?_
  refine st rfl rfl (e_lss rfl rfl) ?_
  refine stB (fun hz => ?_) (fun hz => ?_)
  ·
    first | (have hz2 := of_decide_eq_true hz; omega) | (simp at hz; done) | (simp at hz; omega)
  ·
    try simp only [decide_eq_true_eq, decide_eq_false_iff_not, Bool.not_eq_true', Bool.not_eq_false', Bool.not_eq_true, Bool.not_eq_false] at hz
    refine stEnd (hK _ [(1, _), (2, _), (4, _), (7, _), (24, _)] _ _ rfl ?_)
    clear hK K
    refine W.condF rfl ?_
    refine W.skip ?_
    refine thenN ?_
    refine W.sD [1, 2, 4, 7, 10, 11] [0, 1, 0, 0, 0, 19, 63, 127, 255, 255, 0, 1535, 4095] (by kernel_rfl) (by kernel_rfl) fun K hK => ?_
    refine dL rfl rfl rfl (by omega) (accB_ok rfl) (e_loadA t24 rfl rfl (by repeat (first | exact look_same | assumption | refine look_ne (by omega) ?_)) rfl rfl) ?_
    refine dC1 rfl rfl rfl rfl (laws_toHeap_s _ _ _ _ _ _ _ _ (RowC.keep hr (Nat.le_refl _) (by repeat (first | exact self_old | assumption | refine set_old ?_ (by omega) | refine hide_old ?_ (by omega) (by first | exact List.not_mem_nil | (simp [hidden, Nat.testBit]; done) | (simp [hidden, Nat.testBit]; omega))))) (by omega) (by omega)) (accB_ok rfl) (by first | exact List.not_mem_nil | (simp [hidden, Nat.testBit]; done) | (simp [hidden, Nat.testBit]; omega)) ?_
    refine dP rfl rfl rfl (e_move rfl) ?_
    refine dP rfl rfl rfl (e_move rfl) ?_
    refine dL rfl rfl rfl (by omega) (by repeat (first | exact trivial | refine And.intro (Or.inl rfl) ?_ | refine And.intro (Or.inr trivial) ?_ | refine And.intro (Or.inr (And.intro (Or.inl (by omega)) (by first | (simp; done) | (simp; omega)))) ?_ | refine And.intro (Or.inr (And.intro (Or.inr (by omega)) (by first | (simp; done) | (simp; omega)))) ?_ | refine And.intro (Or.inr (by simp [compat]; try omega)) ?_)) (e_loadA t46 rfl rfl (by repeat (first | exact look_same | assumption | refine look_ne (by omega) ?_)) rfl rfl) ?_
    refine dC rfl rfl rfl rfl (laws_toIntA5_s [c.1, c.2.1, c.2.2, d, e] _ _ (by rfl)) (accB_ok rfl) ?_
    refine dC1 rfl rfl rfl rfl (spec_DoSwitch_ok_s _ _ _ _ _ _ _ _ _ _ _ _ _ (by repeat (first | exact look_same | assumption | refine look_ne (by omega) ?_ | refine look_hide (by omega) (by first | exact List.not_mem_nil | (simp [hidden, Nat.testBit]; done) | (simp [hidden, Nat.testBit]; omega)) ?_)) (by omega) (by assumption) (by assumption) (by assumption) (by assumption) (by assumption)) (accB_ok rfl) (by first | exact List.not_mem_nil | (simp [hidden, Nat.testBit]; done) | (simp [hidden, Nat.testBit]; omega)) ?_
    refine dP rfl rfl rfl (e_move rfl) ?_
    refine dP rfl rfl rfl (e_extract rfl rfl) ?_
    refine dP rfl rfl rfl (e_extract rfl rfl) ?_
    refine dN rfl rfl rfl (e_alloc t28 rfl) ?_
    refine dSt rfl rfl (e_storeA t28 rfl rfl (by repeat (first | exact look_same | assumption | refine look_ne (by omega) ?_ | refine look_hide (by omega) (by first | exact List.not_mem_nil | (simp [hidden, Nat.testBit]; done) | (simp [hidden, Nat.testBit]; omega)) ?_)) rfl rfl rfl (by decide)) (by omega) (by first | exact List.not_mem_nil | (simp [hidden, Nat.testBit]; done) | (simp [hidden, Nat.testBit]; omega)) (accB_ok rfl) ?_
    refine dP rfl rfl rfl (e_assign rfl) ?_
    refine dEnd (hK _ [(1, _), (2, _), (4, _), (7, _), (10, _), (11, _)] _ _ rfl ?_)
    clear hK K
    refine W.sR [1, 2, 4, 7, 10, 11, 12] fun K hK => ?_
    refine st rfl rfl (e_loadA t24 rfl rfl (by repeat (first | exact look_same | assumption | refine look_ne (by omega) ?_)) rfl rfl) ?_
    refine stC rfl rfl rfl (laws_toHeap_s _ _ _ _ _ _ _ _ (RowC.keep hr (Nat.le_refl _) (by repeat (first | exact self_old | assumption | refine set_old ?_ (by omega)))) (by omega) (by omega)) ?_
    refine st rfl rfl (e_alloc t28 rfl) ?_
    refine stN rfl (e_storeA t28 rfl rfl (by repeat (first | exact look_same | assumption | refine look_ne (by omega) ?_)) rfl rfl rfl (by decide)) ?_
    refine stEnd (hK _ [(1, _), (2, _), (4, _), (7, _), (10, _), (11, _), (12, _)] _ _ rfl ?_)
    clear hK K
    refine W.sD [1, 2, 4, 7, 10, 11, 12, 13, 14] [0, 0, 0, 0, 8, 31, 63, 127, 127, 0, 767, 2047] (by kernel_rfl) (by kernel_rfl) fun K hK => ?_
    refine dL rfl rfl rfl (by omega) (accB_ok rfl) (e_loadA t28 rfl rfl (by repeat (first | exact look_same | assumption | refine look_ne (by omega) ?_)) rfl rfl) ?_
    refine dP rfl rfl rfl (e_move rfl) ?_
    refine dP rfl rfl rfl (e_move rfl) ?_
    refine dL rfl rfl rfl (by omega) (accB_ok rfl) (e_loadA t46 rfl rfl (by repeat (first | exact look_same | assumption | refine look_ne (by omega) ?_)) rfl rfl) ?_
    refine dC rfl rfl rfl rfl (laws_toIntA5_s [c.1, c.2.1, c.2.2, d, e] _ _ (by rfl)) (by repeat (first | exact trivial | refine And.intro (Or.inl rfl) ?_ | refine And.intro (Or.inr trivial) ?_ | refine And.intro (Or.inr (And.intro (Or.inl (by omega)) (by first | (simp; done) | (simp; omega)))) ?_ | refine And.intro (Or.inr (And.intro (Or.inr (by omega)) (by first | (simp; done) | (simp; omega)))) ?_ | refine And.intro (Or.inr (by simp [compat]; try omega)) ?_)) ?_
    refine dC1 rfl rfl rfl rfl (impl_DoSwitch_ok_s _ _ _ _ _ _ _ _ _ _ _ _ _ (by repeat (first | exact look_same | assumption | refine look_ne (by omega) ?_ | refine look_hide (by omega) (by first | exact List.not_mem_nil | (simp [hidden, Nat.testBit]; done) | (simp [hidden, Nat.testBit]; omega)) ?_)) (by omega) (by assumption) (by assumption) (by assumption) (by assumption) (by assumption)) (accB_ok rfl) (by first | exact List.not_mem_nil | (simp [hidden, Nat.testBit]; done) | (simp [hidden, Nat.testBit]; omega)) ?_
    refine dP rfl rfl rfl (e_move rfl) ?_
    refine dP rfl rfl rfl (e_extract rfl rfl) ?_
    refine dP rfl rfl rfl (e_extract rfl rfl) ?_
    refine dN rfl rfl rfl (e_alloc t28 rfl) ?_
    refine dSt rfl rfl (e_storeA t28 rfl rfl (by repeat (first | exact look_same | assumption | refine look_ne (by omega) ?_ | refine look_hide (by omega) (by first | exact List.not_mem_nil | (simp [hidden, Nat.testBit]; done) | (simp [hidden, Nat.testBit]; omega)) ?_)) rfl rfl rfl (by decide)) (by omega) (by first | exact List.not_mem_nil | (simp [hidden, Nat.testBit]; done) | (simp [hidden, Nat.testBit]; omega)) (accB_ok rfl) ?_
    refine dP rfl rfl rfl (e_assign rfl) ?_
    refine dEnd (hK _ [(1, _), (2, _), (4, _), (7, _), (10, _), (11, _), (12, _), (13, _), (14, _)] _ _ rfl ?_)
    clear hK K
    refine W.seq ?_
    refine W.sR [1, 2, 4, 7, 10, 11, 12, 13, 14, 54] fun K hK => ?_
    refine st rfl rfl (e_loadA t28 rfl rfl (by repeat (first | exact look_same | assumption | refine look_ne (by omega) ?_)) rfl rfl) ?_
    refine st rfl rfl (e_loadA t28 rfl rfl (by repeat (first | exact look_same | assumption | refine look_ne (by omega) ?_)) rfl rfl) ?_
    refine stC rfl rfl rfl (laws_eqHeap_s _ _ _ _ _ _ _ _ _ _ _ _ _ _ (by repeat (first | exact look_same | assumption | refine look_ne (by omega) ?_)) (by repeat (first | exact look_same | assumption | refine look_ne (by omega) ?_)) (by omega)) ?_
    rw [decide_eq_true (by simp)]
    refine st rfl rfl (e_not rfl) ?_
    refine st rfl rfl (e_move rfl) ?_
    refine st rfl rfl (e_move rfl) ?_
    refine st rfl rfl (e_move rfl) ?_
    refine st rfl rfl (e_neqB_same t4 rfl rfl) ?_
    refine st rfl rfl (e_pickF rfl rfl) ?_
    refine stEnd (hK _ [(1, _), (2, _), (4, _), (7, _), (10, _), (11, _), (12, _), (13, _), (14, _), (54, _)] _ _ rfl ?_)
    clear hK K
    refine W.condF rfl ?_
    refine W.skip ?_
    refine thenN ?_
    refine W.seq ?_
    refine W.sD [1, 2, 4, 7, 10, 11, 12, 13, 14, 59] [0, 0, 2, 7, 15] (by kernel_rfl) (by kernel_rfl) fun K hK => ?_
    refine dL rfl rfl rfl (by omega) (accB_ok rfl) (e_loadA t28 rfl rfl (by repeat (first | exact look_same | assumption | refine look_ne (by omega) ?_)) rfl rfl) ?_
    refine dL rfl rfl rfl (by omega) (accB_ok rfl) (e_loadA t24 rfl rfl (by repeat (first | exact look_same | assumption | refine look_ne (by omega) ?_)) rfl rfl) ?_
    refine dC1 rfl rfl rfl rfl (laws_toHeap_s _ _ _ _ _ _ _ _ (RowC.keep hr (Nat.le_refl _) (by repeat (first | exact self_old | assumption | refine set_old ?_ (by omega) | refine hide_old ?_ (by omega) (by first | exact List.not_mem_nil | (simp [hidden, Nat.testBit]; done) | (simp [hidden, Nat.testBit]; omega))))) (by omega) (by omega)) (by repeat (first | exact trivial | refine And.intro (Or.inl rfl) ?_ | refine And.intro (Or.inr trivial) ?_ | refine And.intro (Or.inr (And.intro (Or.inl (by omega)) (by first | (simp; done) | (simp; omega)))) ?_ | refine And.intro (Or.inr (And.intro (Or.inr (by omega)) (by first | (simp; done) | (simp; omega)))) ?_ | refine And.intro (Or.inr (by simp [compat]; try omega)) ?_)) (by first | exact List.not_mem_nil | (simp [hidden, Nat.testBit]; done) | (simp [hidden, Nat.testBit]; omega)) ?_
    refine dC rfl rfl rfl rfl (laws_eqHeap_s _ _ _ _ _ _ _ _ _ _ _ _ _ _ (by repeat (first | exact look_same | assumption | refine look_ne (by omega) ?_ | refine look_hide (by omega) (by first | exact List.not_mem_nil | (simp [hidden, Nat.testBit]; done) | (simp [hidden, Nat.testBit]; omega)) ?_)) (by repeat (first | exact look_same | assumption | refine look_ne (by omega) ?_ | refine look_hide (by omega) (by first | exact List.not_mem_nil | (simp [hidden, Nat.testBit]; done) | (simp [hidden, Nat.testBit]; omega)) ?_)) (by omega)) (accB_ok rfl) ?_
    rw [decide_eq_true (by simp)]
    refine dP rfl rfl rfl (e_not rfl) ?_
    refine dEnd (hK _ [(1, _), (2, _), (4, _), (7, _), (10, _), (11, _), (12, _), (13, _), (14, _), (59, _)] _ _ rfl ?_)
    clear hK K
    refine W.condF rfl ?_
    refine W.skip ?_
    refine thenN ?_
    refine W.sR [1, 2, 4, 7, 10, 11, 12, 13, 14, 15] fun K hK => ?_
    refine st rfl rfl (e_assign rfl) ?_
    refine stEnd (hK _ [(1, _), (2, _), (4, _), (7, _), (10, _), (11, _), (12, _), (13, _), (14, _), (15, _)] _ _ rfl ?_)
    clear hK K
    refine W.sR [1, 2, 4, 7, 10, 11, 13, 14, 15] fun K hK => ?_
    refine st rfl rfl (e_loadA t28 rfl rfl (by repeat (first | exact look_same | assumption | refine look_ne (by omega) ?_)) rfl rfl) ?_
    refine st rfl rfl (e_move rfl) ?_
    refine stC rfl rfl rfl (laws_markHeap_s _ _ _ _ _ _ _ _ _ (by repeat (first | exact look_same | assumption | refine look_ne (by omega) ?_)) (by first | (rw [flat_length]; omega) | simp | omega) (by first | assumption | exact ints_plain _ | exact flat_plain _) (by omega)) ?_
    rw [markV_flat]
    refine st rfl rfl (e_assign rfl) ?_
    refine stEnd (hK _ [(1, _), (2, _), (4, _), (7, _), (10, _), (11, _), (13, _), (14, _), (15, _)] _ _ rfl ?_)
    clear hK K
    refine W.seq ?_
    refine W.sR [1, 2, 4, 7, 10, 11, 13, 75] fun K hK => ?_
    refine st rfl rfl (e_move rfl) ?_
    refine st rfl rfl (e_lss rfl rfl) ?_
    refine st rfl rfl (e_move rfl) ?_
    refine stB (fun hb2 => ?_) (fun hb2 => ?_)
    ·
      try simp only [decide_eq_true_eq, decide_eq_false_iff_not, Bool.not_eq_true', Bool.not_eq_false', Bool.not_eq_true, Bool.not_eq_false] at hb2
      refine stS rfl rfl ?_
      refine stS rfl rfl ?_
      refine stS rfl rfl ?_
      refine stS rfl rfl ?_
      refine st rfl rfl (e_pickT rfl rfl) ?_
      refine st rfl rfl (e_move rfl) ?_
      refine stS rfl rfl ?_
      refine stS rfl rfl ?_
      refine stS rfl rfl ?_
      refine st rfl rfl (e_pickT rfl rfl) ?_
      refine stEnd (hK _ [(1, _), (2, _), (4, _), (7, _), (10, _), (11, _), (13, _), (75, _)] _ _ rfl ?_)
      clear hK K
      refine W.condT rfl ?_
      refine W.sR [8] fun K hK => ?_
      refine st rfl rfl (e_assign rfl) ?_
      refine stEnd (hK _ [(8, _)] _ _ rfl ?_)
      clear hK K
      refine W.ret ?_
      refine thenR ?_
      refine ⟨.inr rfl, Ends.v0 (by repeat (first | exact self_old | assumption | refine set_old ?_ (by omega))) hfresh (by first | rfl | (simp [ltT, ltA, ltC, ltV]; try omega)) (res1 (resT rfl) rfl) ?_⟩
      first | rfl | (exfalso; omega)
    ·
      try simp only [decide_eq_true_eq, decide_eq_false_iff_not, Bool.not_eq_true', Bool.not_eq_false', Bool.not_eq_true, Bool.not_eq_false] at hb2
      refine st rfl rfl (e_loadA t28 rfl rfl (by repeat (first | exact look_same | assumption | refine look_ne (by omega) ?_)) rfl rfl) ?_
      refine st rfl rfl (e_loadA t28 rfl rfl (by repeat (first | exact look_same | assumption | refine look_ne (by omega) ?_)) rfl rfl) ?_
      refine stC rfl rfl rfl (laws_eqHeap_s _ _ _ _ _ _ _ _ _ _ _ _ _ _ (by repeat (first | exact look_same | assumption | refine look_ne (by omega) ?_)) (by repeat (first | exact look_same | assumption | refine look_ne (by omega) ?_)) (by omega)) ?_
      rw [decide_eq_true (by simp)]
      refine st rfl rfl (e_not rfl) ?_
      refine st rfl rfl (e_pickF rfl rfl) ?_
      refine st rfl rfl (e_move rfl) ?_
      refine st rfl rfl (e_move rfl) ?_
      refine st rfl rfl (e_move rfl) ?_
      refine st rfl rfl (e_neqB_same t4 rfl rfl) ?_
      refine st rfl rfl (e_pickF rfl rfl) ?_
      refine stEnd (hK _ [(1, _), (2, _), (4, _), (7, _), (10, _), (11, _), (13, _), (75, _)] _ _ rfl ?_)
      clear hK K
      refine W.condF rfl ?_
      refine W.skip ?_
      refine thenN ?_
      refine W.sR [1, 2, 4, 7, 10, 11, 13, 16] fun K hK => ?_
      refine st rfl rfl (e_assign rfl) ?_
      refine stEnd (hK _ [(1, _), (2, _), (4, _), (7, _), (10, _), (11, _), (13, _), (16, _)] _ _ rfl ?_)
      clear hK K
      refine W.sR [1, 2, 4, 7, 10, 11, 13, 16] fun K hK => ?_
      refine st rfl rfl (e_loadA t28 rfl rfl (by repeat (first | exact look_same | assumption | refine look_ne (by omega) ?_)) rfl rfl) ?_
      refine st rfl rfl (e_move rfl) ?_
      refine stC rfl rfl rfl (laws_markHeap_s _ _ _ _ _ _ _ _ _ (by repeat (first | exact look_same | assumption | refine look_ne (by omega) ?_)) (by first | (rw [flat_length]; omega) | simp | omega) (by first | assumption | exact ints_plain _ | exact flat_plain _) (by omega)) ?_
      rw [markV_flat]
      refine st rfl rfl (e_assign rfl) ?_
      refine stEnd (hK _ [(1, _), (2, _), (4, _), (7, _), (10, _), (11, _), (13, _), (16, _)] _ _ rfl ?_)
      clear hK K
      refine W.sR [1, 2, 4, 7, 10, 11, 13, 16, 17] fun K hK => ?_
      refine st rfl rfl (e_assign rfl) ?_
      refine stEnd (hK _ [(1, _), (2, _), (4, _), (7, _), (10, _), (11, _), (13, _), (16, _), (17, _)] _ _ rfl ?_)
      clear hK K
      refine W.sR [1, 2, 4, 7, 10, 11, 13, 16, 17] fun K hK => ?_
      refine st rfl rfl (e_loadA t28 rfl rfl (by repeat (first | exact look_same | assumption | refine look_ne (by omega) ?_)) rfl rfl) ?_
      refine st rfl rfl (e_move rfl) ?_
      refine stC rfl rfl rfl (laws_heldHeap_s _ _ _ _ _ _ _ _ _ _ (by repeat (first | exact look_same | assumption | refine look_ne (by omega) ?_)) (by first | assumption | rfl | exact markC_length _ _ | simp) (by omega)) ?_
      rw [heldC_mark]
      refine st rfl rfl (e_assign rfl) ?_
      refine stEnd (hK _ [(1, _), (2, _), (4, _), (7, _), (10, _), (11, _), (13, _), (16, _), (17, _)] _ _ rfl ?_)
      clear hK K
      refine W.seq ?_
      refine W.sR [1, 2, 4, 7, 10, 11, 13, 16, 17, 83] fun K hK => ?_
      refine st rfl rfl (e_move rfl) ?_
      refine st rfl rfl (e_lss rfl rfl) ?_
      refine stB (fun hz => ?_) (fun hz => ?_)
      ·
        first | (have hz2 := of_decide_eq_true hz; omega) | (simp at hz; done) | (simp at hz; omega)
      ·
        try simp only [decide_eq_true_eq, decide_eq_false_iff_not, Bool.not_eq_true', Bool.not_eq_false', Bool.not_eq_true, Bool.not_eq_false] at hz
        refine stEnd (hK _ [(1, _), (2, _), (4, _), (7, _), (10, _), (11, _), (13, _), (16, _), (17, _), (83, _)] _ _ rfl ?_)
        clear hK K
        refine W.condF rfl ?_
        refine W.skip ?_
        refine thenN ?_
        refine W.seq ?_
        refine W.sR [1, 2, 4, 7, 10, 11, 13, 16, 86] fun K hK => ?_
        refine st rfl rfl (e_move rfl) ?_
        refine st rfl rfl (e_move rfl) ?_
        refine st rfl rfl (e_neq rfl rfl) ?_
        refine stB (fun hz => ?_) (fun hz => ?_)
        ·
          first | (have hz2 := of_decide_eq_true hz; omega) | (simp at hz; done) | (simp at hz; omega)
        ·
          try simp only [decide_eq_true_eq, decide_eq_false_iff_not, Bool.not_eq_true', Bool.not_eq_false', Bool.not_eq_true, Bool.not_eq_false] at hz
          refine stEnd (hK _ [(1, _), (2, _), (4, _), (7, _), (10, _), (11, _), (13, _), (16, _), (86, _)] _ _ rfl ?_)
          clear hK K
          refine W.condF rfl ?_
          refine W.skip ?_
          refine thenN ?_
          refine W.sD [10, 11, 13, 16, 18, 19] [0, 1, 0, 0, 0, 19, 63, 127, 255, 255, 0, 1535, 4095] (by kernel_rfl) (by kernel_rfl) fun K hK => ?_
          refine dL rfl rfl rfl (by omega) (accB_ok rfl) (e_loadA t24 rfl rfl (by repeat (first | exact look_same | assumption | refine look_ne (by omega) ?_)) rfl rfl) ?_
          refine dC1 rfl rfl rfl rfl (laws_toHeap_s _ _ _ _ _ _ _ _ (RowC.keep hr (Nat.le_refl _) (by repeat (first | exact self_old | assumption | refine set_old ?_ (by omega) | refine hide_old ?_ (by omega) (by first | exact List.not_mem_nil | (simp [hidden, Nat.testBit]; done) | (simp [hidden, Nat.testBit]; omega))))) (by omega) (by omega)) (accB_ok rfl) (by first | exact List.not_mem_nil | (simp [hidden, Nat.testBit]; done) | (simp [hidden, Nat.testBit]; omega)) ?_
          refine dP rfl rfl rfl (e_move rfl) ?_
          refine dP rfl rfl rfl (e_move rfl) ?_
          refine dL rfl rfl rfl (by omega) (by repeat (first | exact trivial | refine And.intro (Or.inl rfl) ?_ | refine And.intro (Or.inr trivial) ?_ | refine And.intro (Or.inr (And.intro (Or.inl (by omega)) (by first | (simp; done) | (simp; omega)))) ?_ | refine And.intro (Or.inr (And.intro (Or.inr (by omega)) (by first | (simp; done) | (simp; omega)))) ?_ | refine And.intro (Or.inr (by simp [compat]; try omega)) ?_)) (e_loadA t46 rfl rfl (by repeat (first | exact look_same | assumption | refine look_ne (by omega) ?_)) rfl rfl) ?_
          refine dC rfl rfl rfl rfl (laws_toIntA5_s [c.1, c.2.1, c.2.2, d, e] _ _ (by rfl)) (accB_ok rfl) ?_
          refine dC1 rfl rfl rfl rfl (impl_DoSwitch_ok_s _ _ _ _ _ _ _ _ _ _ _ _ _ (by repeat (first | exact look_same | assumption | refine look_ne (by omega) ?_ | refine look_hide (by omega) (by first | exact List.not_mem_nil | (simp [hidden, Nat.testBit]; done) | (simp [hidden, Nat.testBit]; omega)) ?_)) (by omega) (by assumption) (by assumption) (by assumption) (by assumption) (by assumption)) (accB_ok rfl) (by first | exact List.not_mem_nil | (simp [hidden, Nat.testBit]; done) | (simp [hidden, Nat.testBit]; omega)) ?_
          refine dP rfl rfl rfl (e_move rfl) ?_
          refine dP rfl rfl rfl (e_extract rfl rfl) ?_
          refine dP rfl rfl rfl (e_extract rfl rfl) ?_
          refine dN rfl rfl rfl (e_alloc t28 rfl) ?_
          refine dSt rfl rfl (e_storeA t28 rfl rfl (by repeat (first | exact look_same | assumption | refine look_ne (by omega) ?_ | refine look_hide (by omega) (by first | exact List.not_mem_nil | (simp [hidden, Nat.testBit]; done) | (simp [hidden, Nat.testBit]; omega)) ?_)) rfl rfl rfl (by decide)) (by omega) (by first | exact List.not_mem_nil | (simp [hidden, Nat.testBit]; done) | (simp [hidden, Nat.testBit]; omega)) (accB_ok rfl) ?_
          refine dP rfl rfl rfl (e_assign rfl) ?_
          refine dEnd (hK _ [(10, _), (11, _), (13, _), (16, _), (18, _), (19, _)] _ _ rfl ?_)
          clear hK K
          refine W.seq ?_
          refine W.sR [13, 16, 105] fun K hK => ?_
          refine st rfl rfl (e_loadA t28 rfl rfl (by repeat (first | exact look_same | assumption | refine look_ne (by omega) ?_)) rfl rfl) ?_
          refine st rfl rfl (e_loadA t28 rfl rfl (by repeat (first | exact look_same | assumption | refine look_ne (by omega) ?_)) rfl rfl) ?_
          refine stC rfl rfl rfl (laws_eqHeap_s _ _ _ _ _ _ _ _ _ _ _ _ _ _ (by repeat (first | exact look_same | assumption | refine look_ne (by omega) ?_)) (by repeat (first | exact look_same | assumption | refine look_ne (by omega) ?_)) (by omega)) ?_
          rw [decide_eq_true (by simp)]
          refine st rfl rfl (e_not rfl) ?_
          refine st rfl rfl (e_move rfl) ?_
          refine st rfl rfl (e_move rfl) ?_
          refine st rfl rfl (e_move rfl) ?_
          refine st rfl rfl (e_neqB_same t4 rfl rfl) ?_
          refine st rfl rfl (e_pickF rfl rfl) ?_
          refine stEnd (hK _ [(13, _), (16, _), (105, _)] _ _ rfl ?_)
          clear hK K
          refine W.condF rfl ?_
          refine W.skip ?_
          refine thenN ?_
          refine W.sR [13, 16, 17] fun K hK => ?_
          refine st rfl rfl (e_assign rfl) ?_
          refine stEnd (hK _ [(13, _), (16, _), (17, _)] _ _ rfl ?_)
          clear hK K
          refine W.sR [16, 17] fun K hK => ?_
          refine st rfl rfl (e_loadA t28 rfl rfl (by repeat (first | exact look_same | assumption | refine look_ne (by omega) ?_)) rfl rfl) ?_
          refine st rfl rfl (e_move rfl) ?_
          refine stC rfl rfl rfl (laws_heldHeap_s _ _ _ _ _ _ _ _ _ _ (by repeat (first | exact look_same | assumption | refine look_ne (by omega) ?_)) (by first | assumption | rfl | exact markC_length _ _ | simp) (by omega)) ?_
          rw [heldC_mark]
          refine st rfl rfl (e_assign rfl) ?_
          refine stEnd (hK _ [(16, _), (17, _)] _ _ rfl ?_)
          clear hK K
          refine W.seq ?_
          refine W.sR [16, 17, 110] fun K hK => ?_
          refine st rfl rfl (e_move rfl) ?_
          refine st rfl rfl (e_lss rfl rfl) ?_
          refine stB (fun hz => ?_) (fun hz => ?_)
          ·
            first | (have hz2 := of_decide_eq_true hz; omega) | (simp at hz; done) | (simp at hz; omega)
          ·
            try simp only [decide_eq_true_eq, decide_eq_false_iff_not, Bool.not_eq_true', Bool.not_eq_false', Bool.not_eq_true, Bool.not_eq_false] at hz
            refine stEnd (hK _ [(16, _), (17, _), (110, _)] _ _ rfl ?_)
            clear hK K
            refine W.condF rfl ?_
            refine W.skip ?_
            refine thenN ?_
            refine W.seq ?_
            refine W.sR [113] fun K hK => ?_
            refine st rfl rfl (e_move rfl) ?_
            refine st rfl rfl (e_move rfl) ?_
            refine st rfl rfl (e_neq rfl rfl) ?_
            refine stB (fun hz => ?_) (fun hz => ?_)
            ·
              first | (have hz2 := of_decide_eq_true hz; omega) | (simp at hz; done) | (simp at hz; omega)
            ·
              try simp only [decide_eq_true_eq, decide_eq_false_iff_not, Bool.not_eq_true', Bool.not_eq_false', Bool.not_eq_true, Bool.not_eq_false] at hz
              refine stEnd (hK _ [(113, _)] _ _ rfl ?_)
              clear hK K
              refine W.condF rfl ?_
              refine W.skip ?_
              refine thenN ?_
              refine W.sR [8] fun K hK => ?_
              refine st rfl rfl (e_assign rfl) ?_
              refine stEnd (hK _ [(8, _)] _ _ rfl ?_)
              clear hK K
              refine W.ret ?_
              refine ⟨.inr rfl, Ends.v0 (by repeat (first | exact self_old | assumption | refine set_old ?_ (by omega))) hfresh (by first | rfl | (simp [ltT, ltA, ltC, ltV]; try omega)) (res1 (resT rfl) rfl) ?_⟩
              first | rfl | (exfalso; omega)
theorem bld28_ : cBuild Try.prog 28 [] = some (.agg #[.int .i64 0, .int .i64 0, .int .i64 0, .slice none 0 0]) := by
  simp [cBuild, t28, t3, t22, fieldsOk, placesC, fillC, konst0, putC]
theorem spec_DoSwitch_no_s (X Y Z : Int) (b : Nat) (ro : Bool) (cs : List C) (p q : Int) (c : C) (d e : Int) (H : Heap) (n : Nat) (hb : H b = some (.cells ro (flat cs))) (hlen : cs.length ≤ 1048576) (hno : (isHeap X Y Z cs && dirs2 p q && swB X Y Z cs c p.toNat q.toNat d e) = false) : Fn Try.prog 31 [.agg #[.int .i64 X, .int .i64 Y, .int .i64 Z, .slice (some ⟨b, 0, none⟩) cs.length 3], .int .i64 p, .int .i64 q, .agg #[.int .i64 c.1, .int .i64 c.2.1, .int .i64 c.2.2, .int .i64 d, .int .i64 e]] H n (.tuple #[.agg #[.int .i64 0, .int .i64 0, .int .i64 0, .slice none 0 0], .bool false]) (H) (n) := by
  refine Fn.intro' Try.func31 rfl (by kernel_rfl) Try.ntmps31 (by simp) (by omega) fun hfresh => ?_
  have lt_hb := lt_fresh hfresh hb
  show W _ _ _ ⟨[(0, _), (1, _), (2, _), (3, _)], _, _⟩ _
  refine W.sR [1, 2, 4, 7, 8] fun K hK => ?_
  refine st rfl rfl (e_boxA rfl) ?_
  refine st rfl rfl (e_boxA rfl) ?_
  refine st rfl rfl (e_alloc t28 rfl) ?_
  refine st rfl rfl (e_assign rfl) ?_
  refine stEnd (hK _ [(1, _), (2, _), (4, _), (7, _), (8, _)] _ _ rfl ?_)
  clear hK K
  refine W.seq ?_
  refine W.sR [1, 2, 4, 7, 8, 22] fun K hK => ?_
  refine st rfl rfl (e_loadA t28 rfl rfl (by repeat (first | exact look_same | assumption | refine look_ne (by omega) ?_)) rfl rfl) ?_
  refine st rfl rfl (e_move rfl) ?_
  refine st rfl rfl (e_move rfl) ?_
  refine stC rfl rfl rfl (spec_l4Two_s _ _ _ _ _ _ _ _ _ _ (by repeat (first | exact look_same | assumption | refine look_ne (by omega) ?_)) (by omega)) ?_
  refine st rfl rfl (e_not rfl) ?_
  refine st rfl rfl (e_move rfl) ?_
  refine stB (fun h2 => ?_) (fun h2 => ?_)
  ·
    try simp only [decide_eq_true_eq, decide_eq_false_iff_not, Bool.not_eq_true', Bool.not_eq_false', Bool.not_eq_true, Bool.not_eq_false] at h2
    refine stS rfl rfl ?_
    refine stS rfl rfl ?_
    refine stS rfl rfl ?_
    refine stS rfl rfl ?_
    refine stS rfl rfl ?_
    refine stS rfl rfl ?_
    refine st rfl rfl (e_pickT rfl rfl) ?_
    refine stEnd (hK _ [(1, _), (2, _), (4, _), (7, _), (8, _), (22, _)] _ _ rfl ?_)
    clear hK K
    refine W.condT rfl ?_
    refine W.sR [8, 9] fun K hK => ?_
    refine st rfl rfl (e_build rfl rfl (bld28_ )) ?_
    refine stN rfl (e_storeA t28 rfl rfl (by repeat (first | exact look_same | assumption | refine look_ne (by omega) ?_)) rfl rfl rfl (by decide)) ?_
    refine st rfl rfl (e_assign rfl) ?_
    refine stEnd (hK _ [(8, _), (9, _)] _ _ rfl ?_)
    clear hK K
    refine W.ret ?_
    refine thenR ?_
    refine ⟨.inr rfl, Ends.v0 (by repeat (first | exact self_old | assumption | refine set_old ?_ (by omega))) hfresh (by first | rfl | (simp [ltT, ltA, ltC, ltV]; try omega)) (res2 (resC t28 rfl rfl (by repeat (first | exact look_same | assumption | refine look_ne (by omega) ?_)) rfl rfl) (resT rfl) rfl rfl) ?_⟩
    rfl
  ·
    try simp only [decide_eq_true_eq, decide_eq_false_iff_not, Bool.not_eq_true', Bool.not_eq_false', Bool.not_eq_true, Bool.not_eq_false] at h2
    have hh := ((Bool.and_eq_true _ _).mp h2).1
    have hd := ((Bool.and_eq_true _ _).mp h2).2
    have hv := valid_of hh
    have hX := hv.box
    obtain ⟨p', q', rfl, rfl, hp, hq, hpq⟩ := dirs_of hd
    have hnx : swB X Y Z cs c p' q' d e = false := by rw [hh, hd] at hno; simpa using hno
    refine st rfl rfl (e_loadA t28 rfl rfl (by repeat (first | exact look_same | assumption | refine look_ne (by omega) ?_)) rfl rfl) ?_
    refine st rfl rfl (e_move rfl) ?_
    refine st rfl rfl (e_move rfl) ?_
    refine st rfl rfl (e_loadA t46 rfl rfl (by repeat (first | exact look_same | assumption | refine look_ne (by omega) ?_)) rfl rfl) ?_
    refine stC rfl rfl rfl (spec_l4Switch_s _ _ _ _ _ _ c p' q' d e _ _ (by repeat (first | exact look_same | assumption | refine look_ne (by omega) ?_)) (by omega) (by assumption) (by assumption) (by assumption)) ?_
    rw [hnx]
    refine st rfl rfl (e_not rfl) ?_
    refine st rfl rfl (e_pickF rfl rfl) ?_
    refine stEnd (hK _ [(1, _), (2, _), (4, _), (7, _), (8, _), (22, _)] _ _ rfl ?_)
    clear hK K
    refine W.condT rfl ?_
    refine W.sR [8, 9] fun K hK => ?_
    refine st rfl rfl (e_build rfl rfl (bld28_ )) ?_
    refine stN rfl (e_storeA t28 rfl rfl (by repeat (first | exact look_same | assumption | refine look_ne (by omega) ?_)) rfl rfl rfl (by decide)) ?_
    refine st rfl rfl (e_assign rfl) ?_
    refine stEnd (hK _ [(8, _), (9, _)] _ _ rfl ?_)
    clear hK K
    refine W.ret ?_
    refine thenR ?_
    refine ⟨.inr rfl, Ends.v0 (by repeat (first | exact self_old | assumption | refine set_old ?_ (by omega))) hfresh (by first | rfl | (simp [ltT, ltA, ltC, ltV]; try omega)) (res2 (resC t28 rfl rfl (by repeat (first | exact look_same | assumption | refine look_ne (by omega) ?_)) rfl rfl) (resT rfl) rfl rfl) ?_⟩
    rfl
theorem impl_DoSwitch_no_s (X Y Z : Int) (b : Nat) (ro : Bool) (cs : List C) (p q : Int) (c : C) (d e : Int) (H : Heap) (n : Nat) (hb : H b = some (.cells ro (flat cs))) (hlen : cs.length ≤ 1048576) (hno : (isHeap X Y Z cs && dirs2 p q && swB X Y Z cs c p.toNat q.toNat d e) = false) : Fn Try.prog 33 [.agg #[.int .i64 X, .int .i64 Y, .int .i64 Z, .slice (some ⟨b, 0, none⟩) cs.length 3], .int .i64 p, .int .i64 q, .agg #[.int .i64 c.1, .int .i64 c.2.1, .int .i64 c.2.2, .int .i64 d, .int .i64 e]] H n (.tuple #[.agg #[.int .i64 0, .int .i64 0, .int .i64 0, .slice none 0 0], .bool false]) (H) (n) := by
  refine Fn.intro' Try.func33 rfl (by kernel_rfl) Try.ntmps33 (by simp) (by omega) fun hfresh => ?_
  have lt_hb := lt_fresh hfresh hb
  show W _ _ _ ⟨[(0, _), (1, _), (2, _), (3, _)], _, _⟩ _
  refine W.sR [1, 2, 4, 7, 8] fun K hK => ?_
  refine st rfl rfl (e_boxA rfl) ?_
  refine st rfl rfl (e_boxA rfl) ?_
  refine st rfl rfl (e_alloc t28 rfl) ?_
  refine st rfl rfl (e_assign rfl) ?_
  refine stEnd (hK _ [(1, _), (2, _), (4, _), (7, _), (8, _)] _ _ rfl ?_)
  clear hK K
  refine W.seq ?_
  refine W.sR [1, 2, 4, 7, 8, 25] fun K hK => ?_
  refine st rfl rfl (e_loadA t28 rfl rfl (by repeat (first | exact look_same | assumption | refine look_ne (by omega) ?_)) rfl rfl) ?_
  refine stC rfl rfl rfl (impl_IsHeap_s _ _ _ _ _ _ _ _ (by repeat (first | exact look_same | assumption | refine look_ne (by omega) ?_)) (by omega)) ?_
  refine st rfl rfl (e_not rfl) ?_
  refine st rfl rfl (e_move rfl) ?_
  refine stB (fun hh => ?_) (fun hh => ?_)
  ·
    try simp only [decide_eq_true_eq, decide_eq_false_iff_not, Bool.not_eq_true', Bool.not_eq_false', Bool.not_eq_true, Bool.not_eq_false] at hh
    refine stS rfl rfl ?_
    refine stS rfl rfl ?_
    refine stS rfl rfl ?_
    refine stS rfl rfl ?_
    refine st rfl rfl (e_pickT rfl rfl) ?_
    refine st rfl rfl (e_move rfl) ?_
    refine stS rfl rfl ?_
    refine stS rfl rfl ?_
    refine stS rfl rfl ?_
    refine st rfl rfl (e_pickT rfl rfl) ?_
    refine stEnd (hK _ [(1, _), (2, _), (4, _), (7, _), (8, _), (25, _)] _ _ rfl ?_)
    clear hK K
    refine W.condT rfl ?_
    refine W.sR [8, 9] fun K hK => ?_
    refine st rfl rfl (e_build rfl rfl (bld28_ )) ?_
    refine stN rfl (e_storeA t28 rfl rfl (by repeat (first | exact look_same | assumption | refine look_ne (by omega) ?_)) rfl rfl rfl (by decide)) ?_
    refine st rfl rfl (e_assign rfl) ?_
    refine stEnd (hK _ [(8, _), (9, _)] _ _ rfl ?_)
    clear hK K
    refine W.ret ?_
    refine thenR ?_
    refine ⟨.inr rfl, Ends.v0 (by repeat (first | exact self_old | assumption | refine set_old ?_ (by omega))) hfresh (by first | rfl | (simp [ltT, ltA, ltC, ltV]; try omega)) (res2 (resC t28 rfl rfl (by repeat (first | exact look_same | assumption | refine look_ne (by omega) ?_)) rfl rfl) (resT rfl) rfl rfl) ?_⟩
    rfl
  ·
    try simp only [decide_eq_true_eq, decide_eq_false_iff_not, Bool.not_eq_true', Bool.not_eq_false', Bool.not_eq_true, Bool.not_eq_false] at hh
    have hv := valid_of hh
    have hX := hv.box
    refine st rfl rfl (e_move rfl) ?_
    refine st rfl rfl (e_move rfl) ?_
    refine stC rfl rfl rfl (impl_areDirections_s _ _ _ _ ) ?_
    refine st rfl rfl (e_not rfl) ?_
    refine st rfl rfl (e_pickF rfl rfl) ?_
    refine st rfl rfl (e_move rfl) ?_
    refine stB (fun hd => ?_) (fun hd => ?_)
    ·
      try simp only [decide_eq_true_eq, decide_eq_false_iff_not, Bool.not_eq_true', Bool.not_eq_false', Bool.not_eq_true, Bool.not_eq_false] at hd
      refine stS rfl rfl ?_
      refine stS rfl rfl ?_
      refine stS rfl rfl ?_
      refine st rfl rfl (e_pickT rfl rfl) ?_
      refine stEnd (hK _ [(1, _), (2, _), (4, _), (7, _), (8, _), (25, _)] _ _ rfl ?_)
      clear hK K
      refine W.condT rfl ?_
      refine W.sR [8, 9] fun K hK => ?_
      refine st rfl rfl (e_build rfl rfl (bld28_ )) ?_
      refine stN rfl (e_storeA t28 rfl rfl (by repeat (first | exact look_same | assumption | refine look_ne (by omega) ?_)) rfl rfl rfl (by decide)) ?_
      refine st rfl rfl (e_assign rfl) ?_
      refine stEnd (hK _ [(8, _), (9, _)] _ _ rfl ?_)
      clear hK K
      refine W.ret ?_
      refine thenR ?_
      refine ⟨.inr rfl, Ends.v0 (by repeat (first | exact self_old | assumption | refine set_old ?_ (by omega))) hfresh (by first | rfl | (simp [ltT, ltA, ltC, ltV]; try omega)) (res2 (resC t28 rfl rfl (by repeat (first | exact look_same | assumption | refine look_ne (by omega) ?_)) rfl rfl) (resT rfl) rfl rfl) ?_⟩
      rfl
    ·
      try simp only [decide_eq_true_eq, decide_eq_false_iff_not, Bool.not_eq_true', Bool.not_eq_false', Bool.not_eq_true, Bool.not_eq_false] at hd
      obtain ⟨p', q', rfl, rfl, hp, hq, hpq⟩ := dirs_of hd
      have hnx : swB X Y Z cs c p' q' d e = false := by rw [hh, hd] at hno; simpa using hno
      refine st rfl rfl (e_sliceAHi 2 t46 t3 rfl rfl (by repeat (first | exact look_same | assumption | refine look_ne (by omega) ?_)) (by first | (simp; done) | (simp only [tri, List.length_cons, List.length_nil]; omega)) rfl (by decide)) ?_
      refine stC rfl rfl rfl (impl_allWithin_p_s _ 3 _ [c.1, c.2.1, c.2.2, d, e] _ _ _ _ (by repeat (first | exact look_same | assumption | refine look_ne (by omega) ?_)) (by first | assumption | simp) (by omega)) ?_
      rw [show ([c.1, c.2.1, c.2.2, d, e].take 3) = [c.1, c.2.1, c.2.2] from rfl]
      refine st rfl rfl (e_not rfl) ?_
      refine st rfl rfl (e_pickF rfl rfl) ?_
      refine stB (fun hb3 => ?_) (fun hb3 => ?_)
      ·
        try simp only [decide_eq_true_eq, decide_eq_false_iff_not, Bool.not_eq_true', Bool.not_eq_false', Bool.not_eq_true, Bool.not_eq_false] at hb3
        refine stEnd (hK _ [(1, _), (2, _), (4, _), (7, _), (8, _), (25, _)] _ _ rfl ?_)
        clear hK K
        refine W.condT rfl ?_
        refine W.sR [8, 9] fun K hK => ?_
        refine st rfl rfl (e_build rfl rfl (bld28_ )) ?_
        refine stN rfl (e_storeA t28 rfl rfl (by repeat (first | exact look_same | assumption | refine look_ne (by omega) ?_)) rfl rfl rfl (by decide)) ?_
        refine st rfl rfl (e_assign rfl) ?_
        refine stEnd (hK _ [(8, _), (9, _)] _ _ rfl ?_)
        clear hK K
        refine W.ret ?_
        refine thenR ?_
        refine ⟨.inr rfl, Ends.v0 (by repeat (first | exact self_old | assumption | refine set_old ?_ (by omega))) hfresh (by first | rfl | (simp [ltT, ltA, ltC, ltV]; try omega)) (res2 (resC t28 rfl rfl (by repeat (first | exact look_same | assumption | refine look_ne (by omega) ?_)) rfl rfl) (resT rfl) rfl rfl) ?_⟩
        rfl
      ·
        try simp only [decide_eq_true_eq, decide_eq_false_iff_not, Bool.not_eq_true', Bool.not_eq_false', Bool.not_eq_true, Bool.not_eq_false] at hb3
        refine stEnd (hK _ [(1, _), (2, _), (4, _), (7, _), (8, _), (25, _)] _ _ rfl ?_)
        clear hK K
        refine W.condF rfl ?_
        refine W.skip ?_
        refine thenN ?_
        refine W.sD [4, 8, 10, 11] [0, 1, 0, 7, 0, 0, 0, 127, 255, 511, 511, 1023, 4095] (by kernel_rfl) (by kernel_rfl) fun K hK => ?_
        refine dL rfl rfl rfl (by omega) (accB_ok rfl) (e_loadA t28 rfl rfl (by repeat (first | exact look_same | assumption | refine look_ne (by omega) ?_)) rfl rfl) ?_
        refine dC rfl rfl rfl rfl (impl_Heap_box_s _ _ _ _ _ _ ) (accB_ok rfl) ?_
        refine dL rfl rfl rfl (by omega) (by repeat (first | exact trivial | refine And.intro (Or.inl rfl) ?_ | refine And.intro (Or.inr trivial) ?_ | refine And.intro (Or.inr (And.intro (Or.inl (by omega)) (by first | (simp; done) | (simp; omega)))) ?_ | refine And.intro (Or.inr (And.intro (Or.inr (by omega)) (by first | (simp; done) | (simp; omega)))) ?_ | refine And.intro (Or.inr (by simp [compat]; try omega)) ?_)) (e_loadA t28 rfl rfl (by repeat (first | exact look_same | assumption | refine look_ne (by omega) ?_)) rfl rfl) ?_
        refine dC rfl rfl rfl rfl (impl_Heap_cubes_s _ _ _ _ _ _ _ _ (by repeat (first | exact look_same | assumption | refine look_ne (by omega) ?_ | refine look_hide (by omega) (by first | exact List.not_mem_nil | (simp [hidden, Nat.testBit]; done) | (simp [hidden, Nat.testBit]; omega)) ?_)) (by omega) (by assumption)) (accB_ok rfl) ?_
        refine dP rfl rfl rfl (e_move rfl) ?_
        refine dP rfl rfl rfl (e_move rfl) ?_
        refine dL rfl rfl rfl (by omega) (by repeat (first | exact trivial | refine And.intro (Or.inl rfl) ?_ | refine And.intro (Or.inr trivial) ?_ | refine And.intro (Or.inr (And.intro (Or.inl (by omega)) (by first | (simp; done) | (simp; omega)))) ?_ | refine And.intro (Or.inr (And.intro (Or.inr (by omega)) (by first | (simp; done) | (simp; omega)))) ?_ | refine And.intro (Or.inr (by simp [compat]; try omega)) ?_)) (e_loadA t46 rfl rfl (by repeat (first | exact look_same | assumption | refine look_ne (by omega) ?_)) rfl rfl) ?_
        refine dC rfl rfl rfl rfl (impl_box_switched_s _ _ _ (mask Y Z cs) cs c p' q' d e _ _ (rep_mask hv) (by assumption) (by assumption) (by assumption)) (accB_ok rfl) ?_
        rw [hnx]
        refine dP rfl rfl rfl (e_move rfl) ?_
        refine dP rfl rfl rfl (e_extract rfl rfl) ?_
        refine dP rfl rfl rfl (e_extract rfl rfl) ?_
        refine dP rfl rfl rfl (e_assign rfl) ?_
        refine dP rfl rfl rfl (e_assign rfl) ?_
        refine dEnd (hK _ [(4, _), (8, _), (10, _), (11, _)] _ _ rfl ?_)
        clear hK K
        refine W.seq ?_
        refine W.sR [4, 8, 10, 39] fun K hK => ?_
        refine st rfl rfl (e_move rfl) ?_
        refine st rfl rfl (e_not rfl) ?_
        refine stEnd (hK _ [(4, _), (8, _), (10, _), (39, _)] _ _ rfl ?_)
        clear hK K
        refine W.condT rfl ?_
        refine W.sR [8, 9] fun K hK => ?_
        refine st rfl rfl (e_build rfl rfl (bld28_ )) ?_
        refine stN rfl (e_storeA t28 rfl rfl (by repeat (first | exact look_same | assumption | refine look_ne (by omega) ?_)) rfl rfl rfl (by decide)) ?_
        refine st rfl rfl (e_assign rfl) ?_
        refine stEnd (hK _ [(8, _), (9, _)] _ _ rfl ?_)
        clear hK K
        refine W.ret ?_
        refine thenR ?_
        refine ⟨.inr rfl, Ends.v0 (by repeat (first | exact self_old | assumption | refine set_old ?_ (by omega))) hfresh (by first | rfl | (simp [ltT, ltA, ltC, ltV]; try omega)) (res2 (resC t28 rfl rfl (by repeat (first | exact look_same | assumption | refine look_ne (by omega) ?_)) rfl rfl) (resT rfl) rfl rfl) ?_⟩
        rfl
theorem laws_eqIntA3S_nil_s  (H : Heap) (n : Nat) : Fn Try.prog 52 [.slice none 0 0, .slice none 0 0] H n (.bool true) (H) (n) := by
  refine Fn.intro' Try.func52 rfl (by kernel_rfl) Try.ntmps52 (by simp) (by omega) fun hfresh => ?_
  show W _ _ _ ⟨[(0, _), (1, _)], _, _⟩ _
  refine W.sR [0, 1] fun K hK => ?_
  refine st rfl rfl (e_assign rfl) ?_
  refine stEnd (hK _ [(0, _), (1, _)] _ _ rfl ?_)
  clear hK K
  refine W.seq ?_
  refine W.sR [0, 1, 10] fun K hK => ?_
  refine st rfl rfl (e_move rfl) ?_
  refine st rfl rfl (e_len t22 rfl) ?_
  refine st rfl rfl (e_move rfl) ?_
  refine st rfl rfl (e_len t22 rfl) ?_
  refine st rfl rfl (e_neq rfl rfl) ?_
  refine stB (fun hz => ?_) (fun hz => ?_)
  ·
    exact absurd hz (by simp)
  ·
    try simp only [decide_eq_true_eq, decide_eq_false_iff_not, Bool.not_eq_true', Bool.not_eq_false', Bool.not_eq_true, Bool.not_eq_false] at hz
    refine stEnd (hK _ [(0, _), (1, _), (10, _)] _ _ rfl ?_)
    clear hK K
    refine W.condF rfl ?_
    refine W.skip ?_
    refine thenN ?_
    refine W.seq ?_
    refine W.sR [0, 1, 5] fun K hK => ?_
    refine st rfl rfl (e_assign rfl) ?_
    refine stEnd (hK _ [(0, _), (1, _), (5, _)] _ _ rfl ?_)
    clear hK K
    refine W.block ?_
    refine W.ord [5, 0, 1] (ts' := [(5, _)] ++ [(0, _), (1, _)]) rfl ?_
    refine W.loopC [(5, _)] [] (fun κ V G μ => V = [(5, .int .i64 0)] ∧ κ = 0) _ ⟨rfl, rfl⟩ fun κ V G μ hinv hμ hkeep hfr => ?_
    obtain ⟨rfl, rfl⟩ := hinv
    refine W.seq ?_
    refine W.sR [0, 1, 5, 14] fun K hK => ?_
    refine st rfl rfl (e_move rfl) ?_
    refine st rfl rfl (e_move rfl) ?_
    refine st rfl rfl (e_len t22 rfl) ?_
    refine st rfl rfl (e_lss rfl rfl) ?_
    refine stB (fun hz => ?_) (fun hz => ?_)
    ·
      exact absurd hz (by simp)
    ·
      try simp only [decide_eq_true_eq, decide_eq_false_iff_not, Bool.not_eq_true', Bool.not_eq_false', Bool.not_eq_true, Bool.not_eq_false] at hz
      refine stEnd (hK _ [(0, _), (1, _), (5, _), (14, _)] _ _ rfl ?_)
      clear hK K
      refine W.condF rfl ?_
      refine W.exit ?_
      refine thenE ?_
      refine thenE ?_
      refine blockX ?_
      refine thenN ?_
      refine W.sR [4] fun K hK => ?_
      refine st rfl rfl (e_assign rfl) ?_
      refine stEnd (hK _ [(4, _)] _ _ rfl ?_)
      clear hK K
      refine W.ret ?_
      refine ⟨.inr rfl, Ends.v0 (by repeat (first | exact self_old | assumption | refine set_old ?_ (by omega) | refine keep_old (by assumption) ?_ (by omega) (by simp; try omega))) hfresh (by first | rfl | (simp [ltT, ltA, ltC, ltV]; try omega)) (res1 (resT rfl) rfl) ?_⟩
      rfl
theorem laws_eqHeap_nil_s  (H : Heap) (n : Nat) : Fn Try.prog 17 [.agg #[.int .i64 0, .int .i64 0, .int .i64 0, .slice none 0 0], .agg #[.int .i64 0, .int .i64 0, .int .i64 0, .slice none 0 0]] H n (.bool true) (H) (n) := by
  refine Fn.intro' Try.func17 rfl (by kernel_rfl) Try.ntmps17 (by simp) (by omega) fun hfresh => ?_
  show W _ _ _ ⟨[(0, _), (1, _)], _, _⟩ _
  refine W.sR [2, 3] fun K hK => ?_
  refine st rfl rfl (e_boxA rfl) ?_
  refine st rfl rfl (e_boxA rfl) ?_
  refine st rfl rfl (e_assign rfl) ?_
  refine stEnd (hK _ [(2, _), (3, _)] _ _ rfl ?_)
  clear hK K
  refine W.seq ?_
  refine W.sR [2, 3, 9] fun K hK => ?_
  refine st rfl rfl (e_fieldAddr t28 t3 rfl rfl) ?_
  refine st rfl rfl (e_load1 t3 rfl rfl (by repeat (first | exact look_same | assumption | refine look_ne (by omega) ?_)) rfl) ?_
  refine st rfl rfl (e_fieldAddr t28 t3 rfl rfl) ?_
  refine st rfl rfl (e_load1 t3 rfl rfl (by repeat (first | exact look_same | assumption | refine look_ne (by omega) ?_)) rfl) ?_
  refine st rfl rfl (e_neq rfl rfl) ?_
  refine stB (fun hz => ?_) (fun hz => ?_)
  ·
    simp at hz
  ·
    try simp only [decide_eq_true_eq, decide_eq_false_iff_not, Bool.not_eq_true', Bool.not_eq_false', Bool.not_eq_true, Bool.not_eq_false] at hz
    refine stEnd (hK _ [(2, _), (3, _), (9, _)] _ _ rfl ?_)
    clear hK K
    refine W.condF rfl ?_
    refine W.skip ?_
    refine thenN ?_
    refine W.seq ?_
    refine W.sR [2, 3, 14] fun K hK => ?_
    refine st rfl rfl (e_fieldAddr t28 t3 rfl rfl) ?_
    refine st rfl rfl (e_load1 t3 rfl rfl (by repeat (first | exact look_same | assumption | refine look_ne (by omega) ?_)) rfl) ?_
    refine st rfl rfl (e_fieldAddr t28 t3 rfl rfl) ?_
    refine st rfl rfl (e_load1 t3 rfl rfl (by repeat (first | exact look_same | assumption | refine look_ne (by omega) ?_)) rfl) ?_
    refine st rfl rfl (e_neq rfl rfl) ?_
    refine stB (fun hz => ?_) (fun hz => ?_)
    ·
      simp at hz
    ·
      try simp only [decide_eq_true_eq, decide_eq_false_iff_not, Bool.not_eq_true', Bool.not_eq_false', Bool.not_eq_true, Bool.not_eq_false] at hz
      refine stEnd (hK _ [(2, _), (3, _), (14, _)] _ _ rfl ?_)
      clear hK K
      refine W.condF rfl ?_
      refine W.skip ?_
      refine thenN ?_
      refine W.seq ?_
      refine W.sR [2, 3, 19] fun K hK => ?_
      refine st rfl rfl (e_fieldAddr t28 t3 rfl rfl) ?_
      refine st rfl rfl (e_load1 t3 rfl rfl (by repeat (first | exact look_same | assumption | refine look_ne (by omega) ?_)) rfl) ?_
      refine st rfl rfl (e_fieldAddr t28 t3 rfl rfl) ?_
      refine st rfl rfl (e_load1 t3 rfl rfl (by repeat (first | exact look_same | assumption | refine look_ne (by omega) ?_)) rfl) ?_
      refine st rfl rfl (e_neq rfl rfl) ?_
      refine stB (fun hz => ?_) (fun hz => ?_)
      ·
        simp at hz
      ·
        try simp only [decide_eq_true_eq, decide_eq_false_iff_not, Bool.not_eq_true', Bool.not_eq_false', Bool.not_eq_true, Bool.not_eq_false] at hz
        refine stEnd (hK _ [(2, _), (3, _), (19, _)] _ _ rfl ?_)
        clear hK K
        refine W.condF rfl ?_
        refine W.skip ?_
        refine thenN ?_
        refine W.seq ?_
        refine W.sR [25] fun K hK => ?_
        refine st rfl rfl (e_fieldAddr t28 t22 rfl rfl) ?_
        refine st rfl rfl (e_load1 t22 rfl rfl (by repeat (first | exact look_same | assumption | refine look_ne (by omega) ?_)) rfl) ?_
        refine st rfl rfl (e_fieldAddr t28 t22 rfl rfl) ?_
        refine st rfl rfl (e_load1 t22 rfl rfl (by repeat (first | exact look_same | assumption | refine look_ne (by omega) ?_)) rfl) ?_
        refine stC rfl rfl rfl (laws_eqIntA3S_nil_s  _ _ ) ?_
        refine st rfl rfl (e_not rfl) ?_
        refine stEnd (hK _ [(25, _)] _ _ rfl ?_)
        clear hK K
        refine W.condF rfl ?_
        refine W.skip ?_
        refine thenN ?_
        refine W.sR [4] fun K hK => ?_
        refine st rfl rfl (e_assign rfl) ?_
        refine stEnd (hK _ [(4, _)] _ _ rfl ?_)
        clear hK K
        refine W.ret ?_
        refine ⟨.inr rfl, Ends.v0 (by repeat (first | exact self_old | assumption | refine set_old ?_ (by omega))) hfresh (by first | rfl | (simp [ltT, ltA, ltC, ltV]; try omega)) (res1 (resT rfl) rfl) ?_⟩
        rfl
theorem laws_markIntA3S_nil_s (k : Int) (H : Heap) (n : Nat) : Fn Try.prog 54 [.slice none 0 0, .int .i64 k] H n (.int .i64 k) (H) (n) := by
  refine Fn.intro' Try.func54 rfl (by kernel_rfl) Try.ntmps54 (by simp) (by omega) fun hfresh => ?_
  show W _ _ _ ⟨[(0, _), (1, _)], _, _⟩ _
  refine W.sR [0, 1] fun K hK => ?_
  refine st rfl rfl (e_assign rfl) ?_
  refine stEnd (hK _ [(0, _), (1, _)] _ _ rfl ?_)
  clear hK K
  refine W.seq ?_
  refine W.sR [0, 1, 5] fun K hK => ?_
  refine st rfl rfl (e_assign rfl) ?_
  refine stEnd (hK _ [(0, _), (1, _), (5, _)] _ _ rfl ?_)
  clear hK K
  refine W.block ?_
  refine W.ord [1, 5, 0] (ts' := [(1, _), (5, _)] ++ [(0, _)]) rfl ?_
  refine W.loopC [(1, _), (5, _)] [] (fun κ V G μ => V = [(1, .int .i64 k), (5, .int .i64 0)] ∧ κ = 0) _ ⟨rfl, rfl⟩ fun κ V G μ hinv hμ hkeep hfr => ?_
  obtain ⟨rfl, rfl⟩ := hinv
  refine W.seq ?_
  refine W.sR [0, 1, 5, 10] fun K hK => ?_
  refine st rfl rfl (e_move rfl) ?_
  refine st rfl rfl (e_move rfl) ?_
  refine st rfl rfl (e_len t22 rfl) ?_
  refine st rfl rfl (e_lss rfl rfl) ?_
  refine stB (fun hz => ?_) (fun hz => ?_)
  ·
    exact absurd hz (by simp)
  ·
    try simp only [decide_eq_true_eq, decide_eq_false_iff_not, Bool.not_eq_true', Bool.not_eq_false', Bool.not_eq_true, Bool.not_eq_false] at hz
    refine stEnd (hK _ [(0, _), (1, _), (5, _), (10, _)] _ _ rfl ?_)
    clear hK K
    refine W.condF rfl ?_
    refine W.exit ?_
    refine thenE ?_
    refine thenE ?_
    refine blockX ?_
    refine thenN ?_
    refine W.sR [4] fun K hK => ?_
    refine st rfl rfl (e_move rfl) ?_
    refine st rfl rfl (e_assign rfl) ?_
    refine stEnd (hK _ [(4, _)] _ _ rfl ?_)
    clear hK K
    refine W.ret ?_
    refine ⟨.inr rfl, Ends.v0 (by repeat (first | exact self_old | assumption | refine set_old ?_ (by omega) | refine keep_old (by assumption) ?_ (by omega) (by simp; try omega))) hfresh (by first | rfl | (simp [ltT, ltA, ltC, ltV]; try omega)) (res1 (resT rfl) rfl) ?_⟩
    rfl
theorem laws_markHeap_nil_s (k : Int) (H : Heap) (n : Nat) : Fn Try.prog 21 [.agg #[.int .i64 0, .int .i64 0, .int .i64 0, .slice none 0 0], .int .i64 k] H n (.int .i64 k) (H) (n) := by
  refine Fn.intro' Try.func21 rfl (by kernel_rfl) Try.ntmps21 (by simp) (by omega) fun hfresh => ?_
  show W _ _ _ ⟨[(0, _), (1, _)], _, _⟩ _
  refine W.sR [1, 2] fun K hK => ?_
  refine st rfl rfl (e_boxA rfl) ?_
  refine st rfl rfl (e_assign rfl) ?_
  refine stEnd (hK _ [(1, _), (2, _)] _ _ rfl ?_)
  clear hK K
  refine W.sR [1] fun K hK => ?_
  refine st rfl rfl (e_fieldAddr t28 t22 rfl rfl) ?_
  refine st rfl rfl (e_load1 t22 rfl rfl (by repeat (first | exact look_same | assumption | refine look_ne (by omega) ?_)) rfl) ?_
  refine st rfl rfl (e_move rfl) ?_
  refine stC rfl rfl rfl (laws_markIntA3S_nil_s _ _ _ ) ?_
  refine st rfl rfl (e_assign rfl) ?_
  refine stEnd (hK _ [(1, _)] _ _ rfl ?_)
  clear hK K
  refine W.sR [4] fun K hK => ?_
  refine st rfl rfl (e_move rfl) ?_
  refine st rfl rfl (e_assign rfl) ?_
  refine stEnd (hK _ [(4, _)] _ _ rfl ?_)
  clear hK K
  refine W.ret ?_
  refine ⟨.inr rfl, Ends.v0 (by repeat (first | exact self_old | assumption | refine set_old ?_ (by omega))) hfresh (by first | rfl | (simp [ltT, ltA, ltC, ltV]; try omega)) (res1 (resT rfl) rfl) ?_⟩
  rfl
end Go.Sep.Walks
