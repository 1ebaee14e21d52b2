/- Part of a proof: qclea1 -/
import Derived.Test.Ytejicbppanhbjaaqclea0
namespace Go.Sep.Walks
open Go Go.Sep Go.Proofs
set_option linter.unusedVariables false
set_option linter.unusedSimpArgs false
theorem laws_eqIntS_s (b : Nat) (ro : Bool) (xs : List Int) (c : Nat) (ro2 : Bool) (ys : List Int) (H : Heap) (n : Nat) (hb : H b = some (.cells ro (ints xs))) (hc : H c = some (.cells ro2 (ints ys))) (hxs : xs.length ≤ 1048576) : Fn Try.prog 29 [.slice (some ⟨b, 0, none⟩) xs.length 1, .slice (some ⟨c, 0, none⟩) ys.length 1] H n (.bool (decide (xs = ys))) (H) (n) := by
  refine Fn.intro' Try.func29 rfl (by kernel_rfl) Try.ntmps29 (by simp) (by omega) fun hfresh => ?_
  have lt_hb := lt_fresh hfresh hb
  have lt_hc := lt_fresh hfresh hc
  show W _ _ _ ⟨[(0, _), (1, _)], _, _⟩ _
  refine W.sR [0, 1] fun K hK => ?_
  refine st rfl rfl (e_assign rfl) ?_
  refine stEnd (hK _ [(0, _), (1, _)] _ _ rfl ?_)
  clear hK K
  refine W.seq ?_
  refine W.sR [0, 1, 10] fun K hK => ?_
  refine st rfl rfl (e_move rfl) ?_
  refine st rfl rfl (e_len t32 rfl) ?_
  refine st rfl rfl (e_move rfl) ?_
  refine st rfl rfl (e_len t32 rfl) ?_
  refine st rfl rfl (e_neq rfl rfl) ?_
  refine stB (fun hlen => ?_) (fun hlen => ?_)
  ·
    try simp only [decide_eq_true_eq, decide_eq_false_iff_not, Bool.not_eq_true', Bool.not_eq_false', Bool.not_eq_true, Bool.not_eq_false] at hlen
    refine stEnd (hK _ [(0, _), (1, _), (10, _)] _ _ rfl ?_)
    clear hK K
    refine W.condT rfl ?_
    refine W.sR [4] fun K hK => ?_
    refine st rfl rfl (e_assign rfl) ?_
    refine stEnd (hK _ [(4, _)] _ _ rfl ?_)
    clear hK K
    refine W.ret ?_
    refine thenR ?_
    refine ⟨.inr rfl, Ends.v0 (by repeat (first | exact self_old | assumption | refine set_old ?_ (by omega) | refine keep_old (by assumption) ?_ (by omega) (by simp; try omega))) hfresh (by first | rfl | (simp [ltT, ltA, ltC, ltV]; try omega)) (res1 (resT rfl) rfl) ?_⟩
    first | (rw [decide_eq_true (ext1 (by omega) (fun j hj => hq j (by omega)))]) | (congr 1; refine (decide_eq_false ?_).symm; intro e; subst e; first | (exact absurd rfl (by assumption)) | omega)
  ·
    try simp only [decide_eq_true_eq, decide_eq_false_iff_not, Bool.not_eq_true', Bool.not_eq_false', Bool.not_eq_true, Bool.not_eq_false] at hlen
    refine stEnd (hK _ [(0, _), (1, _), (10, _)] _ _ rfl ?_)
    clear hK K
    refine W.condF rfl ?_
    refine W.skip ?_
    refine thenN ?_
    refine W.seq ?_
    refine W.sR [0, 1, 5] fun K hK => ?_
    refine st rfl rfl (e_assign rfl) ?_
    refine stEnd (hK _ [(0, _), (1, _), (5, _)] _ _ rfl ?_)
    clear hK K
    refine W.block ?_
    refine W.ord [5, 0, 1] (ts' := [(5, _)] ++ [(0, _), (1, _)]) rfl ?_
    refine W.loopC [(5, _)] [] (fun κ V G μ => ∃ i : Nat, V = [(5, .int .i64 (i : Nat))] ∧ κ = xs.length - i ∧ (i ≤ xs.length) ∧ (∀ j, j < i → at1 xs j = at1 ys j)) _ ⟨0, rfl, rfl, (by first | omega | assumption | rfl | simp_all), (fun j hj => absurd hj (by omega))⟩ fun κ V G μ hinv hμ hkeep hfr => ?_
    obtain ⟨i, rfl, rfl, hi, hq⟩ := hinv
    refine W.seq ?_
    refine W.sR [0, 1, 5, 14] fun K hK => ?_
    refine st rfl rfl (e_move rfl) ?_
    refine st rfl rfl (e_move rfl) ?_
    refine st rfl rfl (e_len t32 rfl) ?_
    refine st rfl rfl (e_lss rfl rfl) ?_
    refine stB (fun hb2 => ?_) (fun hb2 => ?_)
    ·
      try simp only [decide_eq_true_eq, decide_eq_false_iff_not, Bool.not_eq_true', Bool.not_eq_false', Bool.not_eq_true, Bool.not_eq_false] at hb2
      refine stEnd (hK _ [(0, _), (1, _), (5, _), (14, _)] _ _ rfl ?_)
      clear hK K
      refine W.condT rfl ?_
      refine W.skip ?_
      refine thenN ?_
      refine W.seq ?_
      refine W.block ?_
      refine W.sD [0, 1, 5, 25] [0, 0, 3, 7, 0, 0, 48, 112, 255] (by kernel_rfl) (by kernel_rfl) fun K hK => ?_
      refine dP rfl rfl rfl (e_move rfl) ?_
      refine dP rfl rfl rfl (e_move rfl) ?_
      refine dP rfl rfl rfl (e_idxSK _ t32 t3 rfl rfl rfl (by first | omega | decide)) ?_
      refine dL rfl rfl rfl (by omega) (accB_ok rfl) (e_load1 t3 rfl rfl (by repeat (first | exact look_same | assumption | refine look_ne (by omega) ?_ | refine look_keep (by assumption) (by omega) (by simp; try omega) ?_)) (ints_at (by omega))) ?_
      refine dP rfl rfl rfl (e_move rfl) ?_
      refine dP rfl rfl rfl (e_move rfl) ?_
      refine dP rfl rfl rfl (e_idxSK _ t32 t3 rfl rfl rfl (by first | omega | decide)) ?_
      refine dL rfl rfl rfl (by omega) (accB_ok rfl) (e_load1 t3 rfl rfl (by repeat (first | exact look_same | assumption | refine look_ne (by omega) ?_ | refine look_keep (by assumption) (by omega) (by simp; try omega) ?_)) (ints_at (by omega))) ?_
      refine dP rfl rfl rfl (e_neq rfl rfl) ?_
      refine dB (fun hb3 => ?_) (fun hb3 => ?_)
      ·
        try simp only [decide_eq_true_eq, decide_eq_false_iff_not, Bool.not_eq_true', Bool.not_eq_false', Bool.not_eq_true, Bool.not_eq_false] at hb3
        refine dEnd (hK _ [(0, _), (1, _), (5, _), (25, _)] _ _ rfl ?_)
        clear hK K
        refine W.condT rfl ?_
        refine W.sR [4] fun K hK => ?_
        refine st rfl rfl (e_assign rfl) ?_
        refine stEnd (hK _ [(4, _)] _ _ rfl ?_)
        clear hK K
        refine W.ret ?_
        refine blockR ?_
        refine thenR ?_
        refine thenR ?_
        refine blockR ?_
        refine thenR ?_
        refine ⟨.inr rfl, Ends.v0 (by repeat (first | exact self_old | assumption | refine set_old ?_ (by omega) | refine keep_old (by assumption) ?_ (by omega) (by simp; try omega))) hfresh (by first | rfl | (simp [ltT, ltA, ltC, ltV]; try omega)) (res1 (resT rfl) rfl) ?_⟩
        first | (rw [decide_eq_true (ext1 (by omega) (fun j hj => hq j (by omega)))]) | (congr 1; refine (decide_eq_false ?_).symm; intro e; subst e; first | (exact absurd rfl (by assumption)) | omega)
      ·
        try simp only [decide_eq_true_eq, decide_eq_false_iff_not, Bool.not_eq_true', Bool.not_eq_false', Bool.not_eq_true, Bool.not_eq_false] at hb3
        refine dEnd (hK _ [(0, _), (1, _), (5, _), (25, _)] _ _ rfl ?_)
        clear hK K
        refine W.condF rfl ?_
        refine W.skip ?_
        refine blockN ?_
        refine thenN ?_
        refine W.rR [5, 0, 1] fun K hK => ?_
        refine st rfl rfl (e_move rfl) ?_
        refine st rfl rfl (e_add rfl rfl (inB _ (by omega))) ?_
        refine st rfl rfl (e_assign rfl) ?_
        refine stEnd (hK _ [(5, _), (0, _), (1, _)] _ _ rfl ?_)
        clear hK K
        exact roundN (V' := [(5, _)]) [5, 0, 1] rfl (by omega) (by repeat (first | exact Keeps.refl _ _ _ | assumption | refine Keeps.trans ?_ (by assumption) (by omega) (by simp; try omega) | refine Keeps.set ?_ (by first | exact Or.inl (by omega) | (simp; done) | (simp; omega)) | refine Keeps.del ?_ (by first | exact Or.inl (by omega) | (simp; done) | (simp; omega)))) _ (by omega) ⟨i + 1, rfl, rfl, (by first | omega | assumption | simp_all), (all_succ hq (by assumption))⟩
    ·
      try simp only [decide_eq_true_eq, decide_eq_false_iff_not, Bool.not_eq_true', Bool.not_eq_false', Bool.not_eq_true, Bool.not_eq_false] at hb2
      refine stEnd (hK _ [(0, _), (1, _), (5, _), (14, _)] _ _ rfl ?_)
      clear hK K
      refine W.condF rfl ?_
      refine W.exit ?_
      refine thenE ?_
      refine thenE ?_
      refine blockX ?_
      refine thenN ?_
      refine W.sR [4] fun K hK => ?_
      refine st rfl rfl (e_assign rfl) ?_
      refine stEnd (hK _ [(4, _)] _ _ rfl ?_)
      clear hK K
      refine W.ret ?_
      refine ⟨.inr rfl, Ends.v0 (by repeat (first | exact self_old | assumption | refine set_old ?_ (by omega) | refine keep_old (by assumption) ?_ (by omega) (by simp; try omega))) hfresh (by first | rfl | (simp [ltT, ltA, ltC, ltV]; try omega)) (res1 (resT rfl) rfl) ?_⟩
      first | (rw [decide_eq_true (ext1 (by omega) (fun j hj => hq j (by omega)))]) | (congr 1; refine (decide_eq_false ?_).symm; intro e; subst e; first | (exact absurd rfl (by assumption)) | omega)
theorem laws_eqShadow_s (X Y Z X2 Y2 Z2 : Int) (b0 b1 b2 c0 c1 c2 : Nat) (r0 r1 r2 q0 q1 q2 : Bool) (x0 x1 x2 y0 y1 y2 : List Int) (H : Heap) (n : Nat) (hb0 : H b0 = some (.cells r0 (ints x0))) (hb1 : H b1 = some (.cells r1 (ints x1))) (hb2 : H b2 = some (.cells r2 (ints x2))) (hc0 : H c0 = some (.cells q0 (ints y0))) (hc1 : H c1 = some (.cells q1 (ints y1))) (hc2 : H c2 = some (.cells q2 (ints y2))) (hl0 : x0.length ≤ 1048576) (hl1 : x1.length ≤ 1048576) (hl2 : x2.length ≤ 1048576) : Fn Try.prog 24 [.agg #[.int .i64 X, .int .i64 Y, .int .i64 Z, .slice (some ⟨b0, 0, none⟩) x0.length 1, .slice (some ⟨b1, 0, none⟩) x1.length 1, .slice (some ⟨b2, 0, none⟩) x2.length 1], .agg #[.int .i64 X2, .int .i64 Y2, .int .i64 Z2, .slice (some ⟨c0, 0, none⟩) y0.length 1, .slice (some ⟨c1, 0, none⟩) y1.length 1, .slice (some ⟨c2, 0, none⟩) y2.length 1]] H n (.bool (decide (X = X2 ∧ Y = Y2 ∧ Z = Z2 ∧ x0 = y0 ∧ x1 = y1 ∧ x2 = y2))) (H) (n) := by
  refine Fn.intro' Try.func24 rfl (by kernel_rfl) Try.ntmps24 (by simp) (by omega) fun hfresh => ?_
  have lt_hb0 := lt_fresh hfresh hb0
  have lt_hb1 := lt_fresh hfresh hb1
  have lt_hb2 := lt_fresh hfresh hb2
  have lt_hc0 := lt_fresh hfresh hc0
  have lt_hc1 := lt_fresh hfresh hc1
  have lt_hc2 := lt_fresh hfresh hc2
  show W _ _ _ ⟨[(0, _), (1, _)], _, _⟩ _
  refine W.sR [2, 3] fun K hK => ?_
  refine st rfl rfl (e_boxA rfl) ?_
  refine st rfl rfl (e_boxA rfl) ?_
  refine st rfl rfl (e_assign rfl) ?_
  refine stEnd (hK _ [(2, _), (3, _)] _ _ rfl ?_)
  clear hK K
  refine W.seq ?_
  refine W.sR [2, 3, 9] fun K hK => ?_
  refine st rfl rfl (e_fieldAddr t38 t3 rfl rfl) ?_
  refine st rfl rfl (e_load1 t3 rfl rfl (by repeat (first | exact look_same | assumption | refine look_ne (by omega) ?_)) rfl) ?_
  refine st rfl rfl (e_fieldAddr t38 t3 rfl rfl) ?_
  refine st rfl rfl (e_load1 t3 rfl rfl (by repeat (first | exact look_same | assumption | refine look_ne (by omega) ?_)) rfl) ?_
  refine st rfl rfl (e_neq rfl rfl) ?_
  refine stB (fun hb1 => ?_) (fun hb1 => ?_)
  ·
    try simp only [decide_eq_true_eq, decide_eq_false_iff_not, Bool.not_eq_true', Bool.not_eq_false', Bool.not_eq_true, Bool.not_eq_false] at hb1
    refine stEnd (hK _ [(2, _), (3, _), (9, _)] _ _ rfl ?_)
    clear hK K
    refine W.condT rfl ?_
    refine W.sR [4] fun K hK => ?_
    refine st rfl rfl (e_assign rfl) ?_
    refine stEnd (hK _ [(4, _)] _ _ rfl ?_)
    clear hK K
    refine W.ret ?_
    refine thenR ?_
    refine ⟨.inr rfl, Ends.v0 (by repeat (first | exact self_old | assumption | refine set_old ?_ (by omega))) hfresh (by first | rfl | (simp [ltT, ltA, ltC, ltV]; try omega)) (res1 (resT rfl) rfl) ?_⟩
    first | simp_all | (simp_all; omega)
  ·
    try simp only [decide_eq_true_eq, decide_eq_false_iff_not, Bool.not_eq_true', Bool.not_eq_false', Bool.not_eq_true, Bool.not_eq_false] at hb1
    refine stEnd (hK _ [(2, _), (3, _), (9, _)] _ _ rfl ?_)
    clear hK K
    refine W.condF rfl ?_
    refine W.skip ?_
    refine thenN ?_
    refine W.seq ?_
    refine W.sR [2, 3, 14] fun K hK => ?_
    refine st rfl rfl (e_fieldAddr t38 t3 rfl rfl) ?_
    refine st rfl rfl (e_load1 t3 rfl rfl (by repeat (first | exact look_same | assumption | refine look_ne (by omega) ?_)) rfl) ?_
    refine st rfl rfl (e_fieldAddr t38 t3 rfl rfl) ?_
    refine st rfl rfl (e_load1 t3 rfl rfl (by repeat (first | exact look_same | assumption | refine look_ne (by omega) ?_)) rfl) ?_
    refine st rfl rfl (e_neq rfl rfl) ?_
    refine stB (fun hb2 => ?_) (fun hb2 => ?_)
    ·
      try simp only [decide_eq_true_eq, decide_eq_false_iff_not, Bool.not_eq_true', Bool.not_eq_false', Bool.not_eq_true, Bool.not_eq_false] at hb2
      refine stEnd (hK _ [(2, _), (3, _), (14, _)] _ _ rfl ?_)
      clear hK K
      refine W.condT rfl ?_
      refine W.sR [4] fun K hK => ?_
      refine st rfl rfl (e_assign rfl) ?_
      refine stEnd (hK _ [(4, _)] _ _ rfl ?_)
      clear hK K
      refine W.ret ?_
      refine thenR ?_
      refine ⟨.inr rfl, Ends.v0 (by repeat (first | exact self_old | assumption | refine set_old ?_ (by omega))) hfresh (by first | rfl | (simp [ltT, ltA, ltC, ltV]; try omega)) (res1 (resT rfl) rfl) ?_⟩
      first | simp_all | (simp_all; omega)
    ·
      try simp only [decide_eq_true_eq, decide_eq_false_iff_not, Bool.not_eq_true', Bool.not_eq_false', Bool.not_eq_true, Bool.not_eq_false] at hb2
      refine stEnd (hK _ [(2, _), (3, _), (14, _)] _ _ rfl ?_)
      clear hK K
      refine W.condF rfl ?_
      refine W.skip ?_
      refine thenN ?_
      refine W.seq ?_
      refine W.sR [2, 3, 19] fun K hK => ?_
      refine st rfl rfl (e_fieldAddr t38 t3 rfl rfl) ?_
      refine st rfl rfl (e_load1 t3 rfl rfl (by repeat (first | exact look_same | assumption | refine look_ne (by omega) ?_)) rfl) ?_
      refine st rfl rfl (e_fieldAddr t38 t3 rfl rfl) ?_
      refine st rfl rfl (e_load1 t3 rfl rfl (by repeat (first | exact look_same | assumption | refine look_ne (by omega) ?_)) rfl) ?_
      refine st rfl rfl (e_neq rfl rfl) ?_
      refine stB (fun hb3 => ?_) (fun hb3 => ?_)
      ·
        try simp only [decide_eq_true_eq, decide_eq_false_iff_not, Bool.not_eq_true', Bool.not_eq_false', Bool.not_eq_true, Bool.not_eq_false] at hb3
        refine stEnd (hK _ [(2, _), (3, _), (19, _)] _ _ rfl ?_)
        clear hK K
        refine W.condT rfl ?_
        refine W.sR [4] fun K hK => ?_
        refine st rfl rfl (e_assign rfl) ?_
        refine stEnd (hK _ [(4, _)] _ _ rfl ?_)
        clear hK K
        refine W.ret ?_
        refine thenR ?_
        refine ⟨.inr rfl, Ends.v0 (by repeat (first | exact self_old | assumption | refine set_old ?_ (by omega))) hfresh (by first | rfl | (simp [ltT, ltA, ltC, ltV]; try omega)) (res1 (resT rfl) rfl) ?_⟩
        first | simp_all | (simp_all; omega)
      ·
        try simp only [decide_eq_true_eq, decide_eq_false_iff_not, Bool.not_eq_true', Bool.not_eq_false', Bool.not_eq_true, Bool.not_eq_false] at hb3
        refine stEnd (hK _ [(2, _), (3, _), (19, _)] _ _ rfl ?_)
        clear hK K
        refine W.condF rfl ?_
        refine W.skip ?_
        refine thenN ?_
        refine W.seq ?_
        refine W.sR [2, 3, 25] fun K hK => ?_
        refine st rfl rfl (e_fieldAddr t38 t32 rfl rfl) ?_
        refine st rfl rfl (e_load1 t32 rfl rfl (by repeat (first | exact look_same | assumption | refine look_ne (by omega) ?_)) rfl) ?_
        refine st rfl rfl (e_fieldAddr t38 t32 rfl rfl) ?_
        refine st rfl rfl (e_load1 t32 rfl rfl (by repeat (first | exact look_same | assumption | refine look_ne (by omega) ?_)) rfl) ?_
        refine stC rfl rfl rfl (laws_eqIntS_s _ _ _ _ _ _ _ _ (by repeat (first | exact look_same | assumption | refine look_ne (by omega) ?_)) (by repeat (first | exact look_same | assumption | refine look_ne (by omega) ?_)) (by omega)) ?_
        refine st rfl rfl (e_not rfl) ?_
        refine stB (fun hb4 => ?_) (fun hb4 => ?_)
        ·
          try simp only [decide_eq_true_eq, decide_eq_false_iff_not, Bool.not_eq_true', Bool.not_eq_false', Bool.not_eq_true, Bool.not_eq_false] at hb4
          refine stEnd (hK _ [(2, _), (3, _), (25, _)] _ _ rfl ?_)
          clear hK K
          refine W.condT rfl ?_
          refine W.sR [4] fun K hK => ?_
          refine st rfl rfl (e_assign rfl) ?_
          refine stEnd (hK _ [(4, _)] _ _ rfl ?_)
          clear hK K
          refine W.ret ?_
          refine thenR ?_
          refine ⟨.inr rfl, Ends.v0 (by repeat (first | exact self_old | assumption | refine set_old ?_ (by omega))) hfresh (by first | rfl | (simp [ltT, ltA, ltC, ltV]; try omega)) (res1 (resT rfl) rfl) ?_⟩
          first | simp_all | (simp_all; omega)
        ·
          try simp only [decide_eq_true_eq, decide_eq_false_iff_not, Bool.not_eq_true', Bool.not_eq_false', Bool.not_eq_true, Bool.not_eq_false] at hb4
          refine stEnd (hK _ [(2, _), (3, _), (25, _)] _ _ rfl ?_)
          clear hK K
          refine W.condF rfl ?_
          refine W.skip ?_
          refine thenN ?_
          refine W.seq ?_
          refine W.sR [2, 3, 31] fun K hK => ?_
          refine st rfl rfl (e_fieldAddr t38 t32 rfl rfl) ?_
          refine st rfl rfl (e_load1 t32 rfl rfl (by repeat (first | exact look_same | assumption | refine look_ne (by omega) ?_)) rfl) ?_
          refine st rfl rfl (e_fieldAddr t38 t32 rfl rfl) ?_
          refine st rfl rfl (e_load1 t32 rfl rfl (by repeat (first | exact look_same | assumption | refine look_ne (by omega) ?_)) rfl) ?_
          refine stC rfl rfl rfl (laws_eqIntS_s _ _ _ _ _ _ _ _ (by repeat (first | exact look_same | assumption | refine look_ne (by omega) ?_)) (by repeat (first | exact look_same | assumption | refine look_ne (by omega) ?_)) (by omega)) ?_
          refine st rfl rfl (e_not rfl) ?_
          refine stB (fun hb5 => ?_) (fun hb5 => ?_)
          ·
            try simp only [decide_eq_true_eq, decide_eq_false_iff_not, Bool.not_eq_true', Bool.not_eq_false', Bool.not_eq_true, Bool.not_eq_false] at hb5
            refine stEnd (hK _ [(2, _), (3, _), (31, _)] _ _ rfl ?_)
            clear hK K
            refine W.condT rfl ?_
            refine W.sR [4] fun K hK => ?_
            refine st rfl rfl (e_assign rfl) ?_
            refine stEnd (hK _ [(4, _)] _ _ rfl ?_)
            clear hK K
            refine W.ret ?_
            refine thenR ?_
            refine ⟨.inr rfl, Ends.v0 (by repeat (first | exact self_old | assumption | refine set_old ?_ (by omega))) hfresh (by first | rfl | (simp [ltT, ltA, ltC, ltV]; try omega)) (res1 (resT rfl) rfl) ?_⟩
            first | simp_all | (simp_all; omega)
          ·
            try simp only [decide_eq_true_eq, decide_eq_false_iff_not, Bool.not_eq_true', Bool.not_eq_false', Bool.not_eq_true, Bool.not_eq_false] at hb5
            refine stEnd (hK _ [(2, _), (3, _), (31, _)] _ _ rfl ?_)
            clear hK K
            refine W.condF rfl ?_
            refine W.skip ?_
            refine thenN ?_
            refine W.seq ?_
            refine W.sR [37] fun K hK => ?_
            refine st rfl rfl (e_fieldAddr t38 t32 rfl rfl) ?_
            refine st rfl rfl (e_load1 t32 rfl rfl (by repeat (first | exact look_same | assumption | refine look_ne (by omega) ?_)) rfl) ?_
            refine st rfl rfl (e_fieldAddr t38 t32 rfl rfl) ?_
            refine st rfl rfl (e_load1 t32 rfl rfl (by repeat (first | exact look_same | assumption | refine look_ne (by omega) ?_)) rfl) ?_
            refine stC rfl rfl rfl (laws_eqIntS_s _ _ _ _ _ _ _ _ (by repeat (first | exact look_same | assumption | refine look_ne (by omega) ?_)) (by repeat (first | exact look_same | assumption | refine look_ne (by omega) ?_)) (by omega)) ?_
            refine st rfl rfl (e_not rfl) ?_
            refine stB (fun hb6 => ?_) (fun hb6 => ?_)
            ·
              try simp only [decide_eq_true_eq, decide_eq_false_iff_not, Bool.not_eq_true', Bool.not_eq_false', Bool.not_eq_true, Bool.not_eq_false] at hb6
              refine stEnd (hK _ [(37, _)] _ _ rfl ?_)
              clear hK K
              refine W.condT rfl ?_
              refine W.sR [4] fun K hK => ?_
              refine st rfl rfl (e_assign rfl) ?_
              refine stEnd (hK _ [(4, _)] _ _ rfl ?_)
              clear hK K
              refine W.ret ?_
              refine thenR ?_
              refine ⟨.inr rfl, Ends.v0 (by repeat (first | exact self_old | assumption | refine set_old ?_ (by omega))) hfresh (by first | rfl | (simp [ltT, ltA, ltC, ltV]; try omega)) (res1 (resT rfl) rfl) ?_⟩
              first | simp_all | (simp_all; omega)
            ·
              try simp only [decide_eq_true_eq, decide_eq_false_iff_not, Bool.not_eq_true', Bool.not_eq_false', Bool.not_eq_true, Bool.not_eq_false] at hb6
              refine stEnd (hK _ [(37, _)] _ _ rfl ?_)
              clear hK K
              refine W.condF rfl ?_
              refine W.skip ?_
              refine thenN ?_
              refine W.sR [4] fun K hK => ?_
              refine st rfl rfl (e_assign rfl) ?_
              refine stEnd (hK _ [(4, _)] _ _ rfl ?_)
              clear hK K
              refine W.ret ?_
              refine ⟨.inr rfl, Ends.v0 (by repeat (first | exact self_old | assumption | refine set_old ?_ (by omega))) hfresh (by first | rfl | (simp [ltT, ltA, ltC, ltV]; try omega)) (res1 (resT rfl) rfl) ?_⟩
              first | simp_all | (simp_all; omega)
theorem laws_markIntS_s (b m : Nat) (vs : List Value) (k : Int) (H : Heap) (n : Nat) (hb : H b = some (.cells false vs)) (hl : vs.length = m) (hp : vs.all plainA = true) (hk : (0 ≤ k ∧ k ≤ 1099511627776) ∧ m ≤ 1073741824) : Fn Try.prog 31 [.slice (some ⟨b, 0, none⟩) m 1, .int .i64 k] H n (.int .i64 (k + (m : Int))) (H.set b (.cells false (markV k m vs))) (n) := by
  refine Fn.intro' Try.func31 rfl (by kernel_rfl) Try.ntmps31 (by simp) (by omega) fun hfresh => ?_
  have lt_hb := lt_fresh hfresh hb
  show W _ _ _ ⟨[(0, _), (1, _)], _, _⟩ _
  refine W.sR [0, 1] fun K hK => ?_
  refine st rfl rfl (e_assign rfl) ?_
  refine stEnd (hK _ [(0, _), (1, _)] _ _ rfl ?_)
  clear hK K
  refine W.seq ?_
  refine W.sR [0, 1, 5] fun K hK => ?_
  refine st rfl rfl (e_assign rfl) ?_
  refine stEnd (hK _ [(0, _), (1, _), (5, _)] _ _ rfl ?_)
  clear hK K
  refine W.block ?_
  refine W.ord [1, 5, 0] (ts' := [(1, _), (5, _)] ++ [(0, _)]) rfl ?_
  refine W.loopC [(1, _), (5, _)] [b] (fun κ V G μ => ∃ i : Nat, V = [(1, .int .i64 (k + (i : Int))), (5, .int .i64 (i : Nat))] ∧ κ = m - i ∧ (i ≤ m) ∧ (G b = some (.cells false (markV k i vs)))) _ ⟨0, (by simp), rfl, (by first | omega | assumption | rfl | simp_all), (by rw [markV_zero]; exact (by repeat (first | exact look_same | assumption | refine look_ne (by omega) ?_ | refine look_keep (by assumption) (by omega) (by simp; try omega) ?_)))⟩ fun κ V G μ hinv hμ hkeep hfr => ?_
  obtain ⟨i, rfl, rfl, hi, hG⟩ := hinv
  refine W.seq ?_
  refine W.sR [0, 1, 5, 9] fun K hK => ?_
  refine st rfl rfl (e_move rfl) ?_
  refine st rfl rfl (e_move rfl) ?_
  refine st rfl rfl (e_len t32 rfl) ?_
  refine st rfl rfl (e_lss rfl rfl) ?_
  refine stB (fun hb1 => ?_) (fun hb1 => ?_)
  ·
    try simp only [decide_eq_true_eq, decide_eq_false_iff_not, Bool.not_eq_true', Bool.not_eq_false', Bool.not_eq_true, Bool.not_eq_false] at hb1
    refine stEnd (hK _ [(0, _), (1, _), (5, _), (9, _)] _ _ rfl ?_)
    clear hK K
    refine W.condT rfl ?_
    refine W.skip ?_
    refine thenN ?_
    refine W.seq ?_
    refine W.block ?_
    refine W.sR [0, 1, 5] fun K hK => ?_
    refine st rfl rfl (e_move rfl) ?_
    refine st rfl rfl (e_move rfl) ?_
    refine st rfl rfl (e_move rfl) ?_
    refine st rfl rfl (e_idxSK _ t32 t3 rfl rfl rfl (by first | omega | decide)) ?_
    refine stN rfl (e_store1 t3 rfl rfl rfl (by repeat (first | exact look_same | assumption | refine look_ne (by omega) ?_ | refine look_keep (by assumption) (by omega) (by simp; try omega) ?_)) (by rw [markV_length (by omega)]; omega)) ?_
    refine stEnd (hK _ [(0, _), (1, _), (5, _)] _ _ rfl ?_)
    clear hK K
    refine W.rR [0, 1, 5] fun K hK => ?_
    refine st rfl rfl (e_move rfl) ?_
    refine st rfl rfl (e_add rfl rfl (inB _ (by omega))) ?_
    refine st rfl rfl (e_assign rfl) ?_
    refine stEnd (hK _ [(0, _), (1, _), (5, _)] _ _ rfl ?_)
    clear hK K
    refine blockN ?_
    refine thenN ?_
    refine W.rR [1, 5, 0] fun K hK => ?_
    refine st rfl rfl (e_move rfl) ?_
    refine st rfl rfl (e_add rfl rfl (inB _ (by omega))) ?_
    refine st rfl rfl (e_assign rfl) ?_
    refine stEnd (hK _ [(1, _), (5, _), (0, _)] _ _ rfl ?_)
    clear hK K
    exact roundN (V' := [(1, _), (5, _)]) [1, 5, 0] rfl (by omega) (by repeat (first | exact Keeps.refl _ _ _ | assumption | refine Keeps.trans ?_ (by assumption) (by omega) (by simp; try omega) | refine Keeps.set ?_ (by first | exact Or.inl (by omega) | (simp; done) | (simp; omega)) | refine Keeps.del ?_ (by first | exact Or.inl (by omega) | (simp; done) | (simp; omega)))) _ (by omega) ⟨i + 1, (by simp <;> omega), rfl, (by first | omega | assumption | simp_all), (look_same.trans (congrArg some (congrArg (Blk.cells false) (by rw [show 0 + i * 1 = i by omega]; exact markV_set (by omega) rfl))))⟩
  ·
    try simp only [decide_eq_true_eq, decide_eq_false_iff_not, Bool.not_eq_true', Bool.not_eq_false', Bool.not_eq_true, Bool.not_eq_false] at hb1
    refine stEnd (hK _ [(0, _), (1, _), (5, _), (9, _)] _ _ rfl ?_)
    clear hK K
    refine W.condF rfl ?_
    refine W.exit ?_
    refine thenE ?_
    refine thenE ?_
    refine blockX ?_
    refine thenN ?_
    refine W.sR [4] fun K hK => ?_
    refine st rfl rfl (e_move rfl) ?_
    refine st rfl rfl (e_assign rfl) ?_
    refine stEnd (hK _ [(4, _)] _ _ rfl ?_)
    clear hK K
    refine W.ret ?_
    refine ⟨.inr rfl, Ends.vU (by omega) (by repeat (first | exact OldBut.self | assumption | refine OldBut.set ?_ (by first | exact Or.inl (by omega) | (simp; done) | (simp; omega)) | refine OldBut.keep (by assumption) ?_ (by omega) (by simp; try omega))) hfresh (by repeat (first | exact look_same | assumption | refine look_ne (by omega) ?_ | refine look_keep (by assumption) (by omega) (by simp; try omega) ?_)) ?_ (markV_plain hp) (by first | rfl | (simp [ltT, ltA, ltC, ltV]; try omega)) (res1 (resT rfl) rfl) ?_⟩
    · (obtain rfl : i = m := by omega); rfl
    · (obtain rfl : i = m := by omega); rfl
theorem laws_markShadow_s (X Y Z : Int) (b0 b1 b2 m0 m1 m2 : Nat) (v0 v1 v2 : List Value) (k : Int) (H : Heap) (n : Nat) (hb0 : H b0 = some (.cells false v0)) (hb1 : H b1 = some (.cells false v1)) (hb2 : H b2 = some (.cells false v2)) (hl0 : v0.length = m0) (hl1 : v1.length = m1) (hl2 : v2.length = m2) (hp0 : v0.all plainA = true) (hp1 : v1.all plainA = true) (hp2 : v2.all plainA = true) (hk : (0 ≤ k ∧ k ≤ 1073741824) ∧ m0 ≤ 1048576 ∧ m1 ≤ 1048576 ∧ m2 ≤ 1048576) (hd : b0 ≠ b1 ∧ b0 ≠ b2 ∧ b1 ≠ b2) : Fn Try.prog 35 [.agg #[.int .i64 X, .int .i64 Y, .int .i64 Z, .slice (some ⟨b0, 0, none⟩) m0 1, .slice (some ⟨b1, 0, none⟩) m1 1, .slice (some ⟨b2, 0, none⟩) m2 1], .int .i64 k] H n (.int .i64 (k + (m0 : Int) + (m1 : Int) + (m2 : Int))) (((H.set b0 (.cells false (markV k m0 v0))).set b1 (.cells false (markV (k + (m0 : Int)) m1 v1))).set b2 (.cells false (markV (k + (m0 : Int) + (m1 : Int)) m2 v2))) (n) := by
  refine Fn.intro' Try.func35 rfl (by kernel_rfl) Try.ntmps35 (by simp) (by omega) fun hfresh => ?_
  have lt_hb0 := lt_fresh hfresh hb0
  have lt_hb1 := lt_fresh hfresh hb1
  have lt_hb2 := lt_fresh hfresh hb2
  show W _ _ _ ⟨[(0, _), (1, _)], _, _⟩ _
  refine W.sR [1, 2] fun K hK => ?_
  refine st rfl rfl (e_boxA rfl) ?_
  refine st rfl rfl (e_assign rfl) ?_
  refine stEnd (hK _ [(1, _), (2, _)] _ _ rfl ?_)
  clear hK K
  refine W.sR [1, 2] fun K hK => ?_
  refine st rfl rfl (e_fieldAddr t38 t32 rfl rfl) ?_
  refine st rfl rfl (e_load1 t32 rfl rfl (by repeat (first | exact look_same | assumption | refine look_ne (by omega) ?_)) rfl) ?_
  refine st rfl rfl (e_move rfl) ?_
  refine stC rfl rfl rfl (laws_markIntS_s _ _ _ _ _ _ (by repeat (first | exact look_same | assumption | refine look_ne (by omega) ?_)) (by first | exact ints_length _ | simp | omega) (by first | assumption | exact ints_plain _ | exact flat_plain _) (by omega)) ?_
  refine st rfl rfl (e_assign rfl) ?_
  refine stEnd (hK _ [(1, _), (2, _)] _ _ rfl ?_)
  clear hK K
  refine W.sR [1, 2] fun K hK => ?_
  refine st rfl rfl (e_fieldAddr t38 t32 rfl rfl) ?_
  refine st rfl rfl (e_load1 t32 rfl rfl (by repeat (first | exact look_same | assumption | refine look_ne (by omega) ?_)) rfl) ?_
  refine st rfl rfl (e_move rfl) ?_
  refine stC rfl rfl rfl (laws_markIntS_s _ _ _ _ _ _ (by repeat (first | exact look_same | assumption | refine look_ne (by omega) ?_)) (by first | exact ints_length _ | simp | omega) (by first | assumption | exact ints_plain _ | exact flat_plain _) (by omega)) ?_
  refine st rfl rfl (e_assign rfl) ?_
  refine stEnd (hK _ [(1, _), (2, _)] _ _ rfl ?_)
  clear hK K
  refine W.sR [1] fun K hK => ?_
  refine st rfl rfl (e_fieldAddr t38 t32 rfl rfl) ?_
  refine st rfl rfl (e_load1 t32 rfl rfl (by repeat (first | exact look_same | assumption | refine look_ne (by omega) ?_)) rfl) ?_
  refine st rfl rfl (e_move rfl) ?_
  refine stC rfl rfl rfl (laws_markIntS_s _ _ _ _ _ _ (by repeat (first | exact look_same | assumption | refine look_ne (by omega) ?_)) (by first | exact ints_length _ | simp | omega) (by first | assumption | exact ints_plain _ | exact flat_plain _) (by omega)) ?_
  refine st rfl rfl (e_assign rfl) ?_
  refine stEnd (hK _ [(1, _)] _ _ rfl ?_)
  clear hK K
  refine W.sR [4] fun K hK => ?_
  refine st rfl rfl (e_move rfl) ?_
  refine st rfl rfl (e_assign rfl) ?_
  refine stEnd (hK _ [(4, _)] _ _ rfl ?_)
  clear hK K
  refine W.ret ?_
  refine ⟨.inr rfl, Ends.vU3 (by omega) (by repeat (first | exact OldBut.self | assumption | refine OldBut.set ?_ (by first | exact Or.inl (by omega) | (simp; done) | (simp; omega)) | refine OldBut.keep (by assumption) ?_ (by omega) (by simp; try omega))) hfresh (by repeat (first | exact look_same | assumption | refine look_ne (by omega) ?_)) (by repeat (first | exact look_same | assumption | refine look_ne (by omega) ?_)) (by repeat (first | exact look_same | assumption | refine look_ne (by omega) ?_)) ⟨markV_plain hp0, markV_plain hp1, markV_plain hp2⟩ (by first | rfl | (simp [ltT, ltA, ltC, ltV]; try omega)) (res1 (resT rfl) rfl) ?_ ?_⟩
  · exact ⟨rfl, rfl, rfl⟩
  · rfl
theorem laws_heldIntS_s (b m : Nat) (ro : Bool) (zs : List Int) (k : Int) (H : Heap) (n : Nat) (hb : H b = some (.cells ro (ints zs))) (hl : zs.length = m) (hk : (0 ≤ k ∧ k ≤ 1099511627776) ∧ m ≤ 1073741824) : Fn Try.prog 32 [.slice (some ⟨b, 0, none⟩) m 1, .int .i64 k] H n (.int .i64 (heldI k zs)) (H) (n) := by
  refine Fn.intro' Try.func32 rfl (by kernel_rfl) Try.ntmps32 (by simp) (by omega) fun hfresh => ?_
  have lt_hb := lt_fresh hfresh hb
  subst hl
  show W _ _ _ ⟨[(0, _), (1, _)], _, _⟩ _
  refine W.sR [0, 1] fun K hK => ?_
  refine st rfl rfl (e_assign rfl) ?_
  refine stEnd (hK _ [(0, _), (1, _)] _ _ rfl ?_)
  clear hK K
  refine W.seq ?_
  refine W.sR [0, 1, 5] fun K hK => ?_
  refine st rfl rfl (e_assign rfl) ?_
  refine stEnd (hK _ [(0, _), (1, _), (5, _)] _ _ rfl ?_)
  clear hK K
  refine W.block ?_
  refine W.ord [1, 5, 0] (ts' := [(1, _), (5, _)] ++ [(0, _)]) rfl ?_
  refine W.loopC [(1, _), (5, _)] [] (fun κ V G μ => ∃ i : Nat, V = [(1, .int .i64 (k + (i : Int))), (5, .int .i64 (i : Nat))] ∧ κ = zs.length - i ∧ (i ≤ zs.length) ∧ (∀ p, p < i → at1 zs p = k + (p : Int))) _ ⟨0, (by simp), rfl, (by first | omega | assumption | rfl | simp_all), (fun p hp => absurd hp (by omega))⟩ fun κ V G μ hinv hμ hkeep hfr => ?_
  obtain ⟨i, rfl, rfl, hi, hq⟩ := hinv
  refine W.seq ?_
  refine W.sR [0, 1, 5, 9] fun K hK => ?_
  refine st rfl rfl (e_move rfl) ?_
  refine st rfl rfl (e_move rfl) ?_
  refine st rfl rfl (e_len t32 rfl) ?_
  refine st rfl rfl (e_lss rfl rfl) ?_
  refine stB (fun hb1 => ?_) (fun hb1 => ?_)
  ·
    try simp only [decide_eq_true_eq, decide_eq_false_iff_not, Bool.not_eq_true', Bool.not_eq_false', Bool.not_eq_true, Bool.not_eq_false] at hb1
    refine stEnd (hK _ [(0, _), (1, _), (5, _), (9, _)] _ _ rfl ?_)
    clear hK K
    refine W.condT rfl ?_
    refine W.skip ?_
    refine thenN ?_
    refine W.seq ?_
    refine W.block ?_
    refine W.seq ?_
    refine W.sR [0, 1, 5, 17] fun K hK => ?_
    refine st rfl rfl (e_move rfl) ?_
    refine st rfl rfl (e_move rfl) ?_
    refine st rfl rfl (e_idxSK _ t32 t3 rfl rfl rfl (by first | omega | decide)) ?_
    refine st rfl rfl (e_load1 t3 rfl rfl (by repeat (first | exact look_same | assumption | refine look_ne (by omega) ?_ | refine look_keep (by assumption) (by omega) (by simp; try omega) ?_)) (ints_at (by omega))) ?_
    refine st rfl rfl (e_move rfl) ?_
    refine st rfl rfl (e_neq rfl rfl) ?_
    refine stB (fun hb2 => ?_) (fun hb2 => ?_)
    ·
      try simp only [decide_eq_true_eq, decide_eq_false_iff_not, Bool.not_eq_true', Bool.not_eq_false', Bool.not_eq_true, Bool.not_eq_false] at hb2
      refine stEnd (hK _ [(0, _), (1, _), (5, _), (17, _)] _ _ rfl ?_)
      clear hK K
      refine W.condT rfl ?_
      refine W.sR [4] fun K hK => ?_
      refine st rfl rfl (e_assign rfl) ?_
      refine stEnd (hK _ [(4, _)] _ _ rfl ?_)
      clear hK K
      refine W.ret ?_
      refine thenR ?_
      refine blockR ?_
      refine thenR ?_
      refine thenR ?_
      refine blockR ?_
      refine thenR ?_
      refine ⟨.inr rfl, Ends.v0 (by repeat (first | exact self_old | assumption | refine set_old ?_ (by omega) | refine keep_old (by assumption) ?_ (by omega) (by simp; try omega))) hfresh (by first | rfl | (simp [ltT, ltA, ltC, ltV]; try omega)) (res1 (resT rfl) rfl) ?_⟩
      first | rw [heldI_no (i := i) (by omega) (by assumption)] | (rw [heldI_yes (fun p hp => hq p (by omega))]; congr 2; omega)
    ·
      try simp only [decide_eq_true_eq, decide_eq_false_iff_not, Bool.not_eq_true', Bool.not_eq_false', Bool.not_eq_true, Bool.not_eq_false] at hb2
      refine stEnd (hK _ [(0, _), (1, _), (5, _), (17, _)] _ _ rfl ?_)
      clear hK K
      refine W.condF rfl ?_
      refine W.skip ?_
      refine thenN ?_
      refine W.rR [0, 1, 5] fun K hK => ?_
      refine st rfl rfl (e_move rfl) ?_
      refine st rfl rfl (e_add rfl rfl (inB _ (by omega))) ?_
      refine st rfl rfl (e_assign rfl) ?_
      refine stEnd (hK _ [(0, _), (1, _), (5, _)] _ _ rfl ?_)
      clear hK K
      refine blockN ?_
      refine thenN ?_
      refine W.rR [1, 5, 0] fun K hK => ?_
      refine st rfl rfl (e_move rfl) ?_
      refine st rfl rfl (e_add rfl rfl (inB _ (by omega))) ?_
      refine st rfl rfl (e_assign rfl) ?_
      refine stEnd (hK _ [(1, _), (5, _), (0, _)] _ _ rfl ?_)
      clear hK K
      exact roundN (V' := [(1, _), (5, _)]) [1, 5, 0] rfl (by omega) (by repeat (first | exact Keeps.refl _ _ _ | assumption | refine Keeps.trans ?_ (by assumption) (by omega) (by simp; try omega) | refine Keeps.set ?_ (by first | exact Or.inl (by omega) | (simp; done) | (simp; omega)) | refine Keeps.del ?_ (by first | exact Or.inl (by omega) | (simp; done) | (simp; omega)))) _ (by omega) ⟨i + 1, (by simp <;> omega), rfl, (by first | omega | assumption | simp_all), (all_succ hq (by assumption))⟩
  ·
    try simp only [decide_eq_true_eq, decide_eq_false_iff_not, Bool.not_eq_true', Bool.not_eq_false', Bool.not_eq_true, Bool.not_eq_false] at hb1
    refine stEnd (hK _ [(0, _), (1, _), (5, _), (9, _)] _ _ rfl ?_)
    clear hK K
    refine W.condF rfl ?_
    refine W.exit ?_
    refine thenE ?_
    refine thenE ?_
    refine blockX ?_
    refine thenN ?_
    refine W.sR [4] fun K hK => ?_
    refine st rfl rfl (e_move rfl) ?_
    refine st rfl rfl (e_assign rfl) ?_
    refine stEnd (hK _ [(4, _)] _ _ rfl ?_)
    clear hK K
    refine W.ret ?_
    refine ⟨.inr rfl, Ends.v0 (by repeat (first | exact self_old | assumption | refine set_old ?_ (by omega) | refine keep_old (by assumption) ?_ (by omega) (by simp; try omega))) hfresh (by first | rfl | (simp [ltT, ltA, ltC, ltV]; try omega)) (res1 (resT rfl) rfl) ?_⟩
    first | rw [heldI_no (i := i) (by omega) (by assumption)] | (rw [heldI_yes (fun p hp => hq p (by omega))]; congr 2; omega)
theorem laws_heldShadow_s (X Y Z : Int) (b0 b1 b2 m0 m1 m2 : Nat) (z0 z1 z2 : List Int) (k : Int) (H : Heap) (n : Nat) (hb0 : H b0 = some (.cells false (ints z0))) (hb1 : H b1 = some (.cells false (ints z1))) (hb2 : H b2 = some (.cells false (ints z2))) (hk : (0 ≤ k ∧ k ≤ 1073741824) ∧ m0 ≤ 1048576 ∧ m1 ≤ 1048576 ∧ m2 ≤ 1048576) (hz0 : z0 = upto k m0) (hz1 : z1 = upto (k + (m0 : Int)) m1) (hz2 : z2 = upto (k + (m0 : Int) + (m1 : Int)) m2) : Fn Try.prog 39 [.agg #[.int .i64 X, .int .i64 Y, .int .i64 Z, .slice (some ⟨b0, 0, none⟩) m0 1, .slice (some ⟨b1, 0, none⟩) m1 1, .slice (some ⟨b2, 0, none⟩) m2 1], .int .i64 k] H n (.int .i64 (k + (m0 : Int) + (m1 : Int) + (m2 : Int))) (H) (n) := by
  refine Fn.intro' Try.func39 rfl (by kernel_rfl) Try.ntmps39 (by simp) (by omega) fun hfresh => ?_
  have lt_hb0 := lt_fresh hfresh hb0
  have lt_hb1 := lt_fresh hfresh hb1
  have lt_hb2 := lt_fresh hfresh hb2
  subst hz0 hz1 hz2
  show W _ _ _ ⟨[(0, _), (1, _)], _, _⟩ _
  refine W.sR [1, 2] fun K hK => ?_
  refine st rfl rfl (e_boxA rfl) ?_
  refine st rfl rfl (e_assign rfl) ?_
  refine stEnd (hK _ [(1, _), (2, _)] _ _ rfl ?_)
  clear hK K
  refine W.sR [1, 2] fun K hK => ?_
  refine st rfl rfl (e_fieldAddr t38 t32 rfl rfl) ?_
  refine st rfl rfl (e_load1 t32 rfl rfl (by repeat (first | exact look_same | assumption | refine look_ne (by omega) ?_)) rfl) ?_
  refine st rfl rfl (e_move rfl) ?_
  refine stC rfl rfl rfl (laws_heldIntS_s _ _ _ _ _ _ _ (by repeat (first | exact look_same | assumption | refine look_ne (by omega) ?_)) (by first | rfl | exact upto_length _ _ | simp) (by omega)) ?_
  rw [heldI_mark]
  refine st rfl rfl (e_assign rfl) ?_
  refine stEnd (hK _ [(1, _), (2, _)] _ _ rfl ?_)
  clear hK K
  refine W.seq ?_
  refine W.sR [1, 2, 10] fun K hK => ?_
  refine st rfl rfl (e_move rfl) ?_
  refine st rfl rfl (e_lss rfl rfl) ?_
  refine stB (fun hz => ?_) (fun hz => ?_)
  ·
    (exfalso; simp only [decide_eq_true_eq] at hz; omega)
  ·
    try simp only [decide_eq_true_eq, decide_eq_false_iff_not, Bool.not_eq_true', Bool.not_eq_false', Bool.not_eq_true, Bool.not_eq_false] at hz
    refine stEnd (hK _ [(1, _), (2, _), (10, _)] _ _ rfl ?_)
    clear hK K
    refine W.condF rfl ?_
    refine W.skip ?_
    refine thenN ?_
    refine W.sR [1, 2] fun K hK => ?_
    refine st rfl rfl (e_fieldAddr t38 t32 rfl rfl) ?_
    refine st rfl rfl (e_load1 t32 rfl rfl (by repeat (first | exact look_same | assumption | refine look_ne (by omega) ?_)) rfl) ?_
    refine st rfl rfl (e_move rfl) ?_
    refine stC rfl rfl rfl (laws_heldIntS_s _ _ _ _ _ _ _ (by repeat (first | exact look_same | assumption | refine look_ne (by omega) ?_)) (by first | rfl | exact upto_length _ _ | simp) (by omega)) ?_
    rw [heldI_mark]
    refine st rfl rfl (e_assign rfl) ?_
    refine stEnd (hK _ [(1, _), (2, _)] _ _ rfl ?_)
    clear hK K
    refine W.seq ?_
    refine W.sR [1, 2, 16] fun K hK => ?_
    refine st rfl rfl (e_move rfl) ?_
    refine st rfl rfl (e_lss rfl rfl) ?_
    refine stB (fun hz => ?_) (fun hz => ?_)
    ·
      (exfalso; simp only [decide_eq_true_eq] at hz; omega)
    ·
      try simp only [decide_eq_true_eq, decide_eq_false_iff_not, Bool.not_eq_true', Bool.not_eq_false', Bool.not_eq_true, Bool.not_eq_false] at hz
      refine stEnd (hK _ [(1, _), (2, _), (16, _)] _ _ rfl ?_)
      clear hK K
      refine W.condF rfl ?_
      refine W.skip ?_
      refine thenN ?_
      refine W.sR [1] fun K hK => ?_
      refine st rfl rfl (e_fieldAddr t38 t32 rfl rfl) ?_
      refine st rfl rfl (e_load1 t32 rfl rfl (by repeat (first | exact look_same | assumption | refine look_ne (by omega) ?_)) rfl) ?_
      refine st rfl rfl (e_move rfl) ?_
      refine stC rfl rfl rfl (laws_heldIntS_s _ _ _ _ _ _ _ (by repeat (first | exact look_same | assumption | refine look_ne (by omega) ?_)) (by first | rfl | exact upto_length _ _ | simp) (by omega)) ?_
      rw [heldI_mark]
      refine st rfl rfl (e_assign rfl) ?_
      refine stEnd (hK _ [(1, _)] _ _ rfl ?_)
      clear hK K
      refine W.seq ?_
      refine W.sR [1, 22] fun K hK => ?_
      refine st rfl rfl (e_move rfl) ?_
      refine st rfl rfl (e_lss rfl rfl) ?_
      refine stB (fun hz => ?_) (fun hz => ?_)
      ·
        (exfalso; simp only [decide_eq_true_eq] at hz; omega)
      ·
        try simp only [decide_eq_true_eq, decide_eq_false_iff_not, Bool.not_eq_true', Bool.not_eq_false', Bool.not_eq_true, Bool.not_eq_false] at hz
        refine stEnd (hK _ [(1, _), (22, _)] _ _ rfl ?_)
        clear hK K
        refine W.condF rfl ?_
        refine W.skip ?_
        refine thenN ?_
        refine W.sR [4] fun K hK => ?_
        refine st rfl rfl (e_move rfl) ?_
        refine st rfl rfl (e_assign rfl) ?_
        refine stEnd (hK _ [(4, _)] _ _ rfl ?_)
        clear hK K
        refine W.ret ?_
        refine ⟨.inr rfl, Ends.v0 (by repeat (first | exact self_old | assumption | refine set_old ?_ (by omega))) hfresh (by first | rfl | (simp [ltT, ltA, ltC, ltV]; try omega)) (res1 (resT rfl) rfl) ?_⟩
        rfl
set_option maxHeartbeats 2000000 in
theorem laws_FnExactCleanShadow_ok (X Y Z : Int) (s0 s1 s2 : Value) (x0 x1 x2 : List Int) (r : Nat) (H : Heap) (n : Nat) (hr0 : RowI H r s0 x0) (hr1 : RowI H r s1 x1) (hr2 : RowI H r s2 x2) (hrn : r ≤ n) (hlen : x0.length + x1.length + x2.length ≤ 1048576) (hok : shadB X Y Z x0 x1 x2 = true) : Fn Try.prog 8 [.agg #[.int .i64 X, .int .i64 Y, .int .i64 Z, s0, s1, s2]] H n (.bool true) (H) (n) := by
  refine Fn.intro' Try.func8 rfl (by kernel_rfl) Try.ntmps8 (by simp) (by omega) fun hfresh => ?_
  obtain ⟨p0, e0, rfl⟩ := hr0.form
  obtain ⟨p1, e1, rfl⟩ := hr1.form
  obtain ⟨p2, e2, rfl⟩ := hr2.form
  have hk := shOk hok
  have hX := hk.box
  have hal := alC_valid (x0 := x0) (x1 := x1) (x2 := x2) hX
  have hall := hal.len_vol
  have hvl := vol_le hX
  have hs0 := viewL_length X Y Z 0 (alC X Y Z x0 x1 x2)
  have hs1 := viewL_length X Y Z 1 (alC X Y Z x0 x1 x2)
  have hs2 := viewL_length X Y Z 2 (alC X Y Z x0 x1 x2)
  have hsl0 := onesL_length (viewL X Y Z 0 (alC X Y Z x0 x1 x2))
  have hsl1 := onesL_length (viewL X Y Z 1 (alC X Y Z x0 x1 x2))
  have hsl2 := onesL_length (viewL X Y Z 2 (alC X Y Z x0 x1 x2))
  have hsb0 := lines_bd hX 0
  have hsb1 := lines_bd hX 1
  have hsb2 := lines_bd hX 2
  obtain ⟨t0, hT0⟩ : ∃ t, t = onesL (viewL X Y Z 0 (alC X Y Z x0 x1 x2)) := ⟨_, rfl⟩
  obtain ⟨t1, hT1⟩ : ∃ t, t = onesL (viewL X Y Z 1 (alC X Y Z x0 x1 x2)) := ⟨_, rfl⟩
  obtain ⟨t2, hT2⟩ : ∃ t, t = onesL (viewL X Y Z 2 (alC X Y Z x0 x1 x2)) := ⟨_, rfl⟩
  rw [← hT0] at hsl0
  rw [← hT1] at hsl1
  rw [← hT2] at hsl2
  show W _ _ _ ⟨[(0, _)], _, _⟩ _
  refine W.sR [1] fun K hK => ?_
  refine st rfl rfl (e_boxA rfl) ?_
  refine st rfl rfl (e_assign rfl) ?_
  refine stEnd (hK _ [(1, _)] _ _ rfl ?_)
  clear hK K
  refine W.sR [1, 3] fun K hK => ?_
  refine st rfl rfl (e_assign rfl) ?_
  refine stEnd (hK _ [(1, _), (3, _)] _ _ rfl ?_)
  clear hK K
  refine W.sR [1, 3] fun K hK => ?_
  refine st rfl rfl (e_loadA t34 rfl rfl (by repeat (first | exact look_same | assumption | refine look_ne (by omega) ?_)) rfl rfl) ?_
  refine st rfl rfl (e_move rfl) ?_
  refine stC rfl rfl rfl (laws_szShadow_s _ _ _ _ _ _ _ _ _ _ _ _ _ _ _ (by omega)) ?_
  rw [if_neg (by omega)]
  refine st rfl rfl (e_assign rfl) ?_
  refine stEnd (hK _ [(1, _), (3, _)] _ _ rfl ?_)
  clear hK K
  refine W.seq ?_
  refine W.sR [1, 18] fun K hK => ?_
  refine st rfl rfl (e_move rfl) ?_
  refine st rfl rfl (e_lss rfl rfl) ?_
  refine stB (fun hz => ?_) (fun hz => ?_)
  ·
    first | (have hz2 := of_decide_eq_true hz; omega) | (simp at hz; done) | (simp at hz; omega)
  ·
    try simp only [decide_eq_true_eq, decide_eq_false_iff_not, Bool.not_eq_true', Bool.not_eq_false', Bool.not_eq_true, Bool.not_eq_false] at hz
    refine stEnd (hK _ [(1, _), (18, _)] _ _ rfl ?_)
    clear hK K
    refine W.condF rfl ?_
    refine W.skip ?_
    refine thenN ?_
    refine W.sR [1, 4, 5] fun K hK => ?_
    refine st rfl rfl (e_loadA t34 rfl rfl (by repeat (first | exact look_same | assumption | refine look_ne (by omega) ?_)) rfl rfl) ?_
    refine stC rfl rfl rfl (laws_toShadow_s _ _ _ _ _ _ _ _ _ _ _ _ (RowI.keep hr0 (Nat.le_refl _) (by repeat (first | exact self_old | assumption | refine set_old ?_ (by omega)))) (RowI.keep hr1 (Nat.le_refl _) (by repeat (first | exact self_old | assumption | refine set_old ?_ (by omega)))) (RowI.keep hr2 (Nat.le_refl _) (by repeat (first | exact self_old | assumption | refine set_old ?_ (by omega)))) (by omega) (by omega) (by omega) (by omega)) ?_
    refine stC rfl rfl rfl (spec_CleanShadow_ok_s _ _ _ _ _ _ _ _ _ _ _ _ _ _ (by repeat (first | exact look_same | assumption | refine look_ne (by omega) ?_)) (by repeat (first | exact look_same | assumption | refine look_ne (by omega) ?_)) (by repeat (first | exact look_same | assumption | refine look_ne (by omega) ?_)) (by omega) (by omega) (by omega) (by assumption)) ?_
    rw [← hT0, ← hT1, ← hT2]
    refine st rfl rfl (e_move rfl) ?_
    refine st rfl rfl (e_extract rfl rfl) ?_
    refine st rfl rfl (e_extract rfl rfl) ?_
    refine st rfl rfl (e_alloc t38 rfl) ?_
    refine stN rfl (e_storeA t38 rfl rfl (by repeat (first | exact look_same | assumption | refine look_ne (by omega) ?_)) rfl rfl rfl (by decide)) ?_
    refine st rfl rfl (e_assign rfl) ?_
    refine stEnd (hK _ [(1, _), (4, _), (5, _)] _ _ rfl ?_)
    clear hK K
    refine W.sR [1, 4, 5, 6] fun K hK => ?_
    refine st rfl rfl (e_loadA t34 rfl rfl (by repeat (first | exact look_same | assumption | refine look_ne (by omega) ?_)) rfl rfl) ?_
    refine stC rfl rfl rfl (laws_toShadow_s _ _ _ _ _ _ _ _ _ _ _ _ (RowI.keep hr0 (Nat.le_refl _) (by repeat (first | exact self_old | assumption | refine set_old ?_ (by omega)))) (RowI.keep hr1 (Nat.le_refl _) (by repeat (first | exact self_old | assumption | refine set_old ?_ (by omega)))) (RowI.keep hr2 (Nat.le_refl _) (by repeat (first | exact self_old | assumption | refine set_old ?_ (by omega)))) (by omega) (by omega) (by omega) (by omega)) ?_
    refine st rfl rfl (e_alloc t38 rfl) ?_
    refine stN rfl (e_storeA t38 rfl rfl (by repeat (first | exact look_same | assumption | refine look_ne (by omega) ?_)) rfl rfl rfl (by decide)) ?_
    refine stEnd (hK _ [(1, _), (4, _), (5, _), (6, _)] _ _ rfl ?_)
    clear hK K
    refine W.sR [1, 4, 5, 6, 7, 8] fun K hK => ?_
    refine st rfl rfl (e_loadA t38 rfl rfl (by repeat (first | exact look_same | assumption | refine look_ne (by omega) ?_)) rfl rfl) ?_
    refine stC rfl rfl rfl (impl_CleanShadow_ok_s _ _ _ _ _ _ _ _ _ _ _ _ _ _ (by repeat (first | exact look_same | assumption | refine look_ne (by omega) ?_)) (by repeat (first | exact look_same | assumption | refine look_ne (by omega) ?_)) (by repeat (first | exact look_same | assumption | refine look_ne (by omega) ?_)) (by omega) (by omega) (by omega) (by assumption)) ?_
    rw [← hT0, ← hT1, ← hT2]
    refine st rfl rfl (e_move rfl) ?_
    refine st rfl rfl (e_extract rfl rfl) ?_
    refine st rfl rfl (e_extract rfl rfl) ?_
    refine st rfl rfl (e_alloc t38 rfl) ?_
    refine stN rfl (e_storeA t38 rfl rfl (by repeat (first | exact look_same | assumption | refine look_ne (by omega) ?_)) rfl rfl rfl (by decide)) ?_
    refine st rfl rfl (e_assign rfl) ?_
    refine stEnd (hK _ [(1, _), (4, _), (5, _), (6, _), (7, _), (8, _)] _ _ rfl ?_)
    clear hK K
    refine W.seq ?_
    refine W.sR [1, 4, 5, 6, 7, 8, 40] fun K hK => ?_
    refine st rfl rfl (e_loadA t38 rfl rfl (by repeat (first | exact look_same | assumption | refine look_ne (by omega) ?_)) rfl rfl) ?_
    refine st rfl rfl (e_loadA t38 rfl rfl (by repeat (first | exact look_same | assumption | refine look_ne (by omega) ?_)) rfl rfl) ?_
    refine stC rfl rfl rfl (laws_eqShadow_s _ _ _ _ _ _ _ _ _ _ _ _ _ _ _ _ _ _ _ _ _ _ _ _ _ _ (by repeat (first | exact look_same | assumption | refine look_ne (by omega) ?_)) (by repeat (first | exact look_same | assumption | refine look_ne (by omega) ?_)) (by repeat (first | exact look_same | assumption | refine look_ne (by omega) ?_)) (by repeat (first | exact look_same | assumption | refine look_ne (by omega) ?_)) (by repeat (first | exact look_same | assumption | refine look_ne (by omega) ?_)) (by repeat (first | exact look_same | assumption | refine look_ne (by omega) ?_)) (by omega) (by omega) (by omega)) ?_
    rw [decide_eq_true (by simp)]
    refine st rfl rfl (e_not rfl) ?_
    refine st rfl rfl (e_move rfl) ?_
    refine st rfl rfl (e_move rfl) ?_
    refine st rfl rfl (e_move rfl) ?_
    refine st rfl rfl (e_neqB_same t4 rfl rfl) ?_
    refine st rfl rfl (e_pickF rfl rfl) ?_
    refine stEnd (hK _ [(1, _), (4, _), (5, _), (6, _), (7, _), (8, _), (40, _)] _ _ rfl ?_)
    clear hK K
    refine W.condF rfl ?_
    refine W.skip ?_
    refine thenN ?_
    refine W.seq ?_
    refine W.sD [1, 4, 5, 6, 7, 8, 45] [0, 0, 2, 7, 15] (by kernel_rfl) (by kernel_rfl) fun K hK => ?_
    refine dL rfl rfl rfl (by omega) (accB_ok rfl) (e_loadA t38 rfl rfl (by repeat (first | exact look_same | assumption | refine look_ne (by omega) ?_)) rfl rfl) ?_
    refine dL rfl rfl rfl (by omega) (accB_ok rfl) (e_loadA t34 rfl rfl (by repeat (first | exact look_same | assumption | refine look_ne (by omega) ?_)) rfl rfl) ?_
    refine dC3 rfl rfl rfl rfl (laws_toShadow_s _ _ _ _ _ _ _ _ _ _ _ _ (RowI.keep hr0 (Nat.le_refl _) (by repeat (first | exact self_old | assumption | refine set_old ?_ (by omega) | refine hide_old ?_ (by omega) (by first | exact List.not_mem_nil | (simp [hidden, Nat.testBit]; done) | (simp [hidden, Nat.testBit]; omega))))) (RowI.keep hr1 (Nat.le_refl _) (by repeat (first | exact self_old | assumption | refine set_old ?_ (by omega) | refine hide_old ?_ (by omega) (by first | exact List.not_mem_nil | (simp [hidden, Nat.testBit]; done) | (simp [hidden, Nat.testBit]; omega))))) (RowI.keep hr2 (Nat.le_refl _) (by repeat (first | exact self_old | assumption | refine set_old ?_ (by omega) | refine hide_old ?_ (by omega) (by first | exact List.not_mem_nil | (simp [hidden, Nat.testBit]; done) | (simp [hidden, Nat.testBit]; omega))))) (by omega) (by omega) (by omega) (by omega)) (by repeat (first | exact trivial | refine And.intro (Or.inl rfl) ?_ | refine And.intro (Or.inr trivial) ?_ | refine And.intro (Or.inr (And.intro (Or.inl (by omega)) (by first | (simp; done) | (simp; omega)))) ?_ | refine And.intro (Or.inr (And.intro (Or.inr (by omega)) (by first | (simp; done) | (simp; omega)))) ?_ | refine And.intro (Or.inr (by simp [compat]; try omega)) ?_)) (by first | exact ⟨List.not_mem_nil, List.not_mem_nil, List.not_mem_nil⟩ | (simp [hidden, Nat.testBit]; done) | (simp [hidden, Nat.testBit]; omega)) ?_
    refine dC rfl rfl rfl rfl (laws_eqShadow_s _ _ _ _ _ _ _ _ _ _ _ _ _ _ _ _ _ _ _ _ _ _ _ _ _ _ (by repeat (first | exact look_same | assumption | refine look_ne (by omega) ?_ | refine look_hide (by omega) (by first | exact List.not_mem_nil | (simp [hidden, Nat.testBit]; done) | (simp [hidden, Nat.testBit]; omega)) ?_)) (by repeat (first | exact look_same | assumption | refine look_ne (by omega) ?_ | refine look_hide (by omega) (by first | exact List.not_mem_nil | (simp [hidden, Nat.testBit]; done) | (simp [hidden, Nat.testBit]; omega)) ?_)) (by repeat (first | exact look_same | assumption | refine look_ne (by omega) ?_ | refine look_hide (by omega) (by first | exact List.not_mem_nil | (simp [hidden, Nat.testBit]; done) | (simp [hidden, Nat.testBit]; omega)) ?_)) (by repeat (first | exact look_same | assumption | refine look_ne (by omega) ?_ | refine look_hide (by omega) (by first | exact List.not_mem_nil | (simp [hidden, Nat.testBit]; done) | (simp [hidden, Nat.testBit]; omega)) ?_)) (by repeat (first | exact look_same | assumption | refine look_ne (by omega) ?_ | refine look_hide (by omega) (by first | exact List.not_mem_nil | (simp [hidden, Nat.testBit]; done) | (simp [hidden, Nat.testBit]; omega)) ?_)) (by repeat (first | exact look_same | assumption | refine look_ne (by omega) ?_ | refine look_hide (by omega) (by first | exact List.not_mem_nil | (simp [hidden, Nat.testBit]; done) | (simp [hidden, Nat.testBit]; omega)) ?_)) (by omega) (by omega) (by omega)) (accB_ok rfl) ?_
    rw [decide_eq_true (by simp)]
    refine dP rfl rfl rfl (e_not rfl) ?_
    refine dEnd (hK _ [(1, _), (4, _), (5, _), (6, _), (7, _), (8, _), (45, _)] _ _ rfl ?_)
    clear hK K
    refine W.condF rfl ?_
    refine W.skip ?_
    refine thenN ?_
    refine W.sR [1, 4, 5, 6, 7, 8, 9] fun K hK => ?_
    refine st rfl rfl (e_assign rfl) ?_
    refine stEnd (hK _ [(1, _), (4, _), (5, _), (6, _), (7, _), (8, _), (9, _)] _ _ rfl ?_)
    clear hK K
    refine W.sR [1, 4, 5, 7, 8, 9] fun K hK => ?_
    refine st rfl rfl (e_loadA t38 rfl rfl (by repeat (first | exact look_same | assumption | refine look_ne (by omega) ?_)) rfl rfl) ?_
    refine st rfl rfl (e_move rfl) ?_
    refine stC rfl rfl rfl (laws_markShadow_s _ _ _ _ _ _ _ _ _ _ _ _ _ _ _ (by repeat (first | exact look_same | assumption | refine look_ne (by omega) ?_)) (by repeat (first | exact look_same | assumption | refine look_ne (by omega) ?_)) (by repeat (first | exact look_same | assumption | refine look_ne (by omega) ?_)) (by first | exact ints_length _ | simp) (by first | exact ints_length _ | simp) (by first | exact ints_length _ | simp) (by first | assumption | exact ints_plain _) (by first | assumption | exact ints_plain _) (by first | assumption | exact ints_plain _) (by omega) (by omega)) ?_
    rw [markV_ints, markV_ints, markV_ints]
    refine st rfl rfl (e_assign rfl) ?_
    refine stEnd (hK _ [(1, _), (4, _), (5, _), (7, _), (8, _), (9, _)] _ _ rfl ?_)
    clear hK K
    refine W.seq ?_
    refine W.sR [1, 4, 5, 7, 61] fun K hK => ?_
    refine st rfl rfl (e_move rfl) ?_
    refine st rfl rfl (e_lss rfl rfl) ?_
    refine st rfl rfl (e_move rfl) ?_
    refine stB (fun hb2 => ?_) (fun hb2 => ?_)
    ·
      try simp only [decide_eq_true_eq, decide_eq_false_iff_not, Bool.not_eq_true', Bool.not_eq_false', Bool.not_eq_true, Bool.not_eq_false] at hb2
      refine stS rfl rfl ?_
      refine stS rfl rfl ?_
      refine stS rfl rfl ?_
      refine stS rfl rfl ?_
      refine st rfl rfl (e_pickT rfl rfl) ?_
      refine st rfl rfl (e_move rfl) ?_
      refine stS rfl rfl ?_
      refine stS rfl rfl ?_
      refine stS rfl rfl ?_
      refine st rfl rfl (e_pickT rfl rfl) ?_
      refine stEnd (hK _ [(1, _), (4, _), (5, _), (7, _), (61, _)] _ _ rfl ?_)
      clear hK K
      refine W.condT rfl ?_
      refine W.sR [2] fun K hK => ?_
      refine st rfl rfl (e_assign rfl) ?_
      refine stEnd (hK _ [(2, _)] _ _ rfl ?_)
      clear hK K
      refine W.ret ?_
      refine thenR ?_
      refine ⟨.inr rfl, Ends.v0 (by repeat (first | exact self_old | assumption | refine set_old ?_ (by omega))) hfresh (by first | rfl | (simp [ltT, ltA, ltC, ltV]; try omega)) (res1 (resT rfl) rfl) ?_⟩
      first | rfl | (exfalso; omega)
    ·
      try simp only [decide_eq_true_eq, decide_eq_false_iff_not, Bool.not_eq_true', Bool.not_eq_false', Bool.not_eq_true, Bool.not_eq_false] at hb2
      refine st rfl rfl (e_loadA t38 rfl rfl (by repeat (first | exact look_same | assumption | refine look_ne (by omega) ?_)) rfl rfl) ?_
      refine st rfl rfl (e_loadA t38 rfl rfl (by repeat (first | exact look_same | assumption | refine look_ne (by omega) ?_)) rfl rfl) ?_
      refine stC rfl rfl rfl (laws_eqShadow_s _ _ _ _ _ _ _ _ _ _ _ _ _ _ _ _ _ _ _ _ _ _ _ _ _ _ (by repeat (first | exact look_same | assumption | refine look_ne (by omega) ?_)) (by repeat (first | exact look_same | assumption | refine look_ne (by omega) ?_)) (by repeat (first | exact look_same | assumption | refine look_ne (by omega) ?_)) (by repeat (first | exact look_same | assumption | refine look_ne (by omega) ?_)) (by repeat (first | exact look_same | assumption | refine look_ne (by omega) ?_)) (by repeat (first | exact look_same | assumption | refine look_ne (by omega) ?_)) (by omega) (by omega) (by omega)) ?_
      rw [decide_eq_true (by simp)]
      refine st rfl rfl (e_not rfl) ?_
      refine st rfl rfl (e_pickF rfl rfl) ?_
      refine st rfl rfl (e_move rfl) ?_
      refine st rfl rfl (e_move rfl) ?_
      refine st rfl rfl (e_move rfl) ?_
      refine st rfl rfl (e_neqB_same t4 rfl rfl) ?_
      refine st rfl rfl (e_pickF rfl rfl) ?_
      refine stEnd (hK _ [(1, _), (4, _), (5, _), (7, _), (61, _)] _ _ rfl ?_)
      clear hK K
      refine W.condF rfl ?_
      refine W.skip ?_
      refine thenN ?_
      refine W.sR [1, 4, 5, 7, 10] fun K hK => ?_
      refine st rfl rfl (e_assign rfl) ?_
      refine stEnd (hK _ [(1, _), (4, _), (5, _), (7, _), (10, _)] _ _ rfl ?_)
      clear hK K
      refine W.sR [1, 4, 5, 7, 10] fun K hK => ?_
      refine st rfl rfl (e_loadA t38 rfl rfl (by repeat (first | exact look_same | assumption | refine look_ne (by omega) ?_)) rfl rfl) ?_
      refine st rfl rfl (e_move rfl) ?_
      refine stC rfl rfl rfl (laws_markShadow_s _ _ _ _ _ _ _ _ _ _ _ _ _ _ _ (by repeat (first | exact look_same | assumption | refine look_ne (by omega) ?_)) (by repeat (first | exact look_same | assumption | refine look_ne (by omega) ?_)) (by repeat (first | exact look_same | assumption | refine look_ne (by omega) ?_)) (by first | exact ints_length _ | simp) (by first | exact ints_length _ | simp) (by first | exact ints_length _ | simp) (by first | assumption | exact ints_plain _) (by first | assumption | exact ints_plain _) (by first | assumption | exact ints_plain _) (by omega) (by omega)) ?_
      rw [markV_ints, markV_ints, markV_ints]
      refine st rfl rfl (e_assign rfl) ?_
      refine stEnd (hK _ [(1, _), (4, _), (5, _), (7, _), (10, _)] _ _ rfl ?_)
      clear hK K
      refine W.sR [1, 4, 5, 7, 10, 11] fun K hK => ?_
      refine st rfl rfl (e_assign rfl) ?_
      refine stEnd (hK _ [(1, _), (4, _), (5, _), (7, _), (10, _), (11, _)] _ _ rfl ?_)
      clear hK K
      refine W.sR [1, 4, 5, 7, 10, 11] fun K hK => ?_
      refine st rfl rfl (e_loadA t38 rfl rfl (by repeat (first | exact look_same | assumption | refine look_ne (by omega) ?_)) rfl rfl) ?_
      refine st rfl rfl (e_move rfl) ?_
      refine stC rfl rfl rfl (laws_heldShadow_s _ _ _ _ _ _ _ _ _ _ _ _ _ _ _ (by repeat (first | exact look_same | assumption | refine look_ne (by omega) ?_)) (by repeat (first | exact look_same | assumption | refine look_ne (by omega) ?_)) (by repeat (first | exact look_same | assumption | refine look_ne (by omega) ?_)) (by omega) rfl rfl rfl) ?_
      refine st rfl rfl (e_assign rfl) ?_
      refine stEnd (hK _ [(1, _), (4, _), (5, _), (7, _), (10, _), (11, _)] _ _ rfl ?_)
      clear hK K
      refine W.seq ?_
      refine W.sR [1, 4, 5, 7, 10, 11, 69] fun K hK => ?_
      refine st rfl rfl (e_move rfl) ?_
      refine st rfl rfl (e_lss rfl rfl) ?_
      refine stB (fun hz => ?_) (fun hz => ?_)
      ·
        first | (have hz2 := of_decide_eq_true hz; omega) | (simp at hz; done) | (simp at hz; omega)
      ·
        try simp only [decide_eq_true_eq, decide_eq_false_iff_not, Bool.not_eq_true', Bool.not_eq_false', Bool.not_eq_true, Bool.not_eq_false] at hz
        refine stEnd (hK _ [(1, _), (4, _), (5, _), (7, _), (10, _), (11, _), (69, _)] _ _ rfl ?_)
        clear hK K
        refine W.condF rfl ?_
        refine W.skip ?_
        refine thenN ?_
        refine W.seq ?_
        refine W.sR [1, 4, 5, 7, 10, 72] fun K hK => ?_
        refine st rfl rfl (e_move rfl) ?_
        refine st rfl rfl (e_move rfl) ?_
        refine st rfl rfl (e_neq rfl rfl) ?_
        refine stB (fun hz => ?_) (fun hz => ?_)
        ·
          first | (have hz2 := of_decide_eq_true hz; omega) | (simp at hz; done) | (simp at hz; omega)
        ·
          try simp only [decide_eq_true_eq, decide_eq_false_iff_not, Bool.not_eq_true', Bool.not_eq_false', Bool.not_eq_true, Bool.not_eq_false] at hz
          refine stEnd (hK _ [(1, _), (4, _), (5, _), (7, _), (10, _), (72, _)] _ _ rfl ?_)
          clear hK K
          refine W.condF rfl ?_
          refine W.skip ?_
          refine thenN ?_
          refine W.sR [4, 5, 7, 10, 12, 13] fun K hK => ?_
          refine st rfl rfl (e_loadA t34 rfl rfl (by repeat (first | exact look_same | assumption | refine look_ne (by omega) ?_)) rfl rfl) ?_
          refine stC rfl rfl rfl (laws_toShadow_s _ _ _ _ _ _ _ _ _ _ _ _ (RowI.keep hr0 (Nat.le_refl _) (by repeat (first | exact self_old | assumption | refine set_old ?_ (by omega)))) (RowI.keep hr1 (Nat.le_refl _) (by repeat (first | exact self_old | assumption | refine set_old ?_ (by omega)))) (RowI.keep hr2 (Nat.le_refl _) (by repeat (first | exact self_old | assumption | refine set_old ?_ (by omega)))) (by omega) (by omega) (by omega) (by omega)) ?_
          refine stC rfl rfl rfl (impl_CleanShadow_ok_s _ _ _ _ _ _ _ _ _ _ _ _ _ _ (by repeat (first | exact look_same | assumption | refine look_ne (by omega) ?_)) (by repeat (first | exact look_same | assumption | refine look_ne (by omega) ?_)) (by repeat (first | exact look_same | assumption | refine look_ne (by omega) ?_)) (by omega) (by omega) (by omega) (by assumption)) ?_
          rw [← hT0, ← hT1, ← hT2]
          refine st rfl rfl (e_move rfl) ?_
          refine st rfl rfl (e_extract rfl rfl) ?_
          refine st rfl rfl (e_extract rfl rfl) ?_
          refine st rfl rfl (e_alloc t38 rfl) ?_
          refine stN rfl (e_storeA t38 rfl rfl (by repeat (first | exact look_same | assumption | refine look_ne (by omega) ?_)) rfl rfl rfl (by decide)) ?_
          refine st rfl rfl (e_assign rfl) ?_
          refine stEnd (hK _ [(4, _), (5, _), (7, _), (10, _), (12, _), (13, _)] _ _ rfl ?_)
          clear hK K
          refine W.seq ?_
          refine W.sR [7, 10, 87] fun K hK => ?_
          refine st rfl rfl (e_loadA t38 rfl rfl (by repeat (first | exact look_same | assumption | refine look_ne (by omega) ?_)) rfl rfl) ?_
          refine st rfl rfl (e_loadA t38 rfl rfl (by repeat (first | exact look_same | assumption | refine look_ne (by omega) ?_)) rfl rfl) ?_
          refine stC rfl rfl rfl (laws_eqShadow_s _ _ _ _ _ _ _ _ _ _ _ _ _ _ _ _ _ _ _ _ _ _ _ _ _ _ (by repeat (first | exact look_same | assumption | refine look_ne (by omega) ?_)) (by repeat (first | exact look_same | assumption | refine look_ne (by omega) ?_)) (by repeat (first | exact look_same | assumption | refine look_ne (by omega) ?_)) (by repeat (first | exact look_same | assumption | refine look_ne (by omega) ?_)) (by repeat (first | exact look_same | assumption | refine look_ne (by omega) ?_)) (by repeat (first | exact look_same | assumption | refine look_ne (by omega) ?_)) (by omega) (by omega) (by omega)) ?_
          rw [decide_eq_true (by simp)]
          refine st rfl rfl (e_not rfl) ?_
          refine st rfl rfl (e_move rfl) ?_
          refine st rfl rfl (e_move rfl) ?_
          refine st rfl rfl (e_move rfl) ?_
          refine st rfl rfl (e_neqB_same t4 rfl rfl) ?_
          refine st rfl rfl (e_pickF rfl rfl) ?_
          refine stEnd (hK _ [(7, _), (10, _), (87, _)] _ _ rfl ?_)
          clear hK K
          refine W.condF rfl ?_
          refine W.skip ?_
          refine thenN ?_
          refine W.sR [7, 10, 11] fun K hK => ?_
          refine st rfl rfl (e_assign rfl) ?_
          refine stEnd (hK _ [(7, _), (10, _), (11, _)] _ _ rfl ?_)
          clear hK K
          refine W.sR [10, 11] fun K hK => ?_
          refine st rfl rfl (e_loadA t38 rfl rfl (by repeat (first | exact look_same | assumption | refine look_ne (by omega) ?_)) rfl rfl) ?_
          refine st rfl rfl (e_move rfl) ?_
          refine stC rfl rfl rfl (laws_heldShadow_s _ _ _ _ _ _ _ _ _ _ _ _ _ _ _ (by repeat (first | exact look_same | assumption | refine look_ne (by omega) ?_)) (by repeat (first | exact look_same | assumption | refine look_ne (by omega) ?_)) (by repeat (first | exact look_same | assumption | refine look_ne (by omega) ?_)) (by omega) rfl rfl rfl) ?_
          refine st rfl rfl (e_assign rfl) ?_
          refine stEnd (hK _ [(10, _), (11, _)] _ _ rfl ?_)
          clear hK K
          refine W.seq ?_
          refine W.sR [10, 11, 92] fun K hK => ?_
          refine st rfl rfl (e_move rfl) ?_
          refine st rfl rfl (e_lss rfl rfl) ?_
          refine stB (fun hz => ?_) (fun hz => ?_)
          ·
            first | (have hz2 := of_decide_eq_true hz; omega) | (simp at hz; done) | (simp at hz; omega)
          ·
            try simp only [decide_eq_true_eq, decide_eq_false_iff_not, Bool.not_eq_true', Bool.not_eq_false', Bool.not_eq_true, Bool.not_eq_false] at hz
            refine stEnd (hK _ [(10, _), (11, _), (92, _)] _ _ rfl ?_)
            clear hK K
            refine W.condF rfl ?_
            refine W.skip ?_
            refine thenN ?_
            refine W.seq ?_
            refine W.sR [95] fun K hK => ?_
            refine st rfl rfl (e_move rfl) ?_
            refine st rfl rfl (e_move rfl) ?_
            refine st rfl rfl (e_neq rfl rfl) ?_
            refine stB (fun hz => ?_) (fun hz => ?_)
            ·
              first | (have hz2 := of_decide_eq_true hz; omega) | (simp at hz; done) | (simp at hz; omega)
            ·
              try simp only [decide_eq_true_eq, decide_eq_false_iff_not, Bool.not_eq_true', Bool.not_eq_false', Bool.not_eq_true, Bool.not_eq_false] at hz
              refine stEnd (hK _ [(95, _)] _ _ rfl ?_)
              clear hK K
              refine W.condF rfl ?_
              refine W.skip ?_
              refine thenN ?_
              refine W.sR [2] fun K hK => ?_
              refine st rfl rfl (e_assign rfl) ?_
              refine stEnd (hK _ [(2, _)] _ _ rfl ?_)
              clear hK K
              refine W.ret ?_
              refine ⟨.inr rfl, Ends.v0 (by repeat (first | exact self_old | assumption | refine set_old ?_ (by omega))) hfresh (by first | rfl | (simp [ltT, ltA, ltC, ltV]; try omega)) (res1 (resT rfl) rfl) ?_⟩
              first | rfl | (exfalso; omega)
theorem bld38_ : cBuild Try.prog 38 [] = some (.agg #[.int .i64 0, .int .i64 0, .int .i64 0, .slice none 0 0, .slice none 0 0, .slice none 0 0]) := by
  simp [cBuild, t38, t3, t32, fieldsOk, placesC, fillC, konst0, putC]
theorem spec_CleanShadow_no_s (X Y Z : Int) (b0 b1 b2 : Nat) (r0 r1 r2 : Bool) (x0 x1 x2 : List Int) (H : Heap) (n : Nat) (hb0 : H b0 = some (.cells r0 (ints x0))) (hb1 : H b1 = some (.cells r1 (ints x1))) (hb2 : H b2 = some (.cells r2 (ints x2))) (hl0 : x0.length ≤ 1048576) (hl1 : x1.length ≤ 1048576) (hl2 : x2.length ≤ 1048576) (hok : shadB X Y Z x0 x1 x2 = false) : Fn Try.prog 37 [.agg #[.int .i64 X, .int .i64 Y, .int .i64 Z, .slice (some ⟨b0, 0, none⟩) x0.length 1, .slice (some ⟨b1, 0, none⟩) x1.length 1, .slice (some ⟨b2, 0, none⟩) x2.length 1]] H n (.tuple #[.agg #[.int .i64 0, .int .i64 0, .int .i64 0, .slice none 0 0, .slice none 0 0, .slice none 0 0], .bool false]) (H) (n) := by
  refine Fn.intro' Try.func37 rfl (by kernel_rfl) Try.ntmps37 (by simp) (by omega) fun hfresh => ?_
  have lt_hb0 := lt_fresh hfresh hb0
  have lt_hb1 := lt_fresh hfresh hb1
  have lt_hb2 := lt_fresh hfresh hb2
  show W _ _ _ ⟨[(0, _)], _, _⟩ _
  refine W.sR [1, 2] fun K hK => ?_
  refine st rfl rfl (e_boxA rfl) ?_
  refine st rfl rfl (e_alloc t38 rfl) ?_
  refine st rfl rfl (e_assign rfl) ?_
  refine stEnd (hK _ [(1, _), (2, _)] _ _ rfl ?_)
  clear hK K
  refine W.seq ?_
  refine W.sR [1, 2, 6] fun K hK => ?_
  refine st rfl rfl (e_loadA t38 rfl rfl (by repeat (first | exact look_same | assumption | refine look_ne (by omega) ?_)) rfl rfl) ?_
  refine stC rfl rfl rfl (spec_l3Shadow_s _ _ _ _ _ _ _ _ _ _ _ _ _ _ (by repeat (first | exact look_same | assumption | refine look_ne (by omega) ?_)) (by repeat (first | exact look_same | assumption | refine look_ne (by omega) ?_)) (by repeat (first | exact look_same | assumption | refine look_ne (by omega) ?_)) (by omega) (by omega) (by omega)) ?_
  rw [hok]
  refine st rfl rfl (e_not rfl) ?_
  refine stEnd (hK _ [(1, _), (2, _), (6, _)] _ _ rfl ?_)
  clear hK K
  refine W.condT rfl ?_
  refine W.sR [2, 3] fun K hK => ?_
  refine st rfl rfl (e_build rfl rfl (bld38_ )) ?_
  refine stN rfl (e_storeA t38 rfl rfl (by repeat (first | exact look_same | assumption | refine look_ne (by omega) ?_)) rfl rfl rfl (by decide)) ?_
  refine st rfl rfl (e_assign rfl) ?_
  refine stEnd (hK _ [(2, _), (3, _)] _ _ rfl ?_)
  clear hK K
  refine W.ret ?_
  refine thenR ?_
  refine ⟨.inr rfl, Ends.v0 (by repeat (first | exact self_old | assumption | refine set_old ?_ (by omega))) hfresh (by first | rfl | (simp [ltT, ltA, ltC, ltV]; try omega)) (res2 (resC t38 rfl rfl (by repeat (first | exact look_same | assumption | refine look_ne (by omega) ?_)) rfl rfl) (resT rfl) rfl rfl) ?_⟩
  rfl
theorem impl_CleanShadow_no_s (X Y Z : Int) (b0 b1 b2 : Nat) (r0 r1 r2 : Bool) (x0 x1 x2 : List Int) (H : Heap) (n : Nat) (hb0 : H b0 = some (.cells r0 (ints x0))) (hb1 : H b1 = some (.cells r1 (ints x1))) (hb2 : H b2 = some (.cells r2 (ints x2))) (hl0 : x0.length ≤ 1048576) (hl1 : x1.length ≤ 1048576) (hl2 : x2.length ≤ 1048576) (hok : shadB X Y Z x0 x1 x2 = false) : Fn Try.prog 38 [.agg #[.int .i64 X, .int .i64 Y, .int .i64 Z, .slice (some ⟨b0, 0, none⟩) x0.length 1, .slice (some ⟨b1, 0, none⟩) x1.length 1, .slice (some ⟨b2, 0, none⟩) x2.length 1]] H n (.tuple #[.agg #[.int .i64 0, .int .i64 0, .int .i64 0, .slice none 0 0, .slice none 0 0, .slice none 0 0], .bool false]) (H) (n) := by
  refine Fn.intro' Try.func38 rfl (by kernel_rfl) Try.ntmps38 (by simp) (by omega) fun hfresh => ?_
  have lt_hb0 := lt_fresh hfresh hb0
  have lt_hb1 := lt_fresh hfresh hb1
  have lt_hb2 := lt_fresh hfresh hb2
  show W _ _ _ ⟨[(0, _)], _, _⟩ _
  refine W.sR [1, 2] fun K hK => ?_
  refine st rfl rfl (e_boxA rfl) ?_
  refine st rfl rfl (e_alloc t38 rfl) ?_
  refine st rfl rfl (e_assign rfl) ?_
  refine stEnd (hK _ [(1, _), (2, _)] _ _ rfl ?_)
  clear hK K
  refine W.seq ?_
  refine W.sR [1, 2, 6] fun K hK => ?_
  refine st rfl rfl (e_loadA t38 rfl rfl (by repeat (first | exact look_same | assumption | refine look_ne (by omega) ?_)) rfl rfl) ?_
  refine stC rfl rfl rfl (impl_IsShadow_s _ _ _ _ _ _ _ _ _ _ _ _ _ _ (by repeat (first | exact look_same | assumption | refine look_ne (by omega) ?_)) (by repeat (first | exact look_same | assumption | refine look_ne (by omega) ?_)) (by repeat (first | exact look_same | assumption | refine look_ne (by omega) ?_)) (by omega) (by omega) (by omega)) ?_
  rw [hok]
  refine st rfl rfl (e_not rfl) ?_
  refine stEnd (hK _ [(1, _), (2, _), (6, _)] _ _ rfl ?_)
  clear hK K
  refine W.condT rfl ?_
  refine W.sR [2, 3] fun K hK => ?_
  refine st rfl rfl (e_build rfl rfl (bld38_ )) ?_
  refine stN rfl (e_storeA t38 rfl rfl (by repeat (first | exact look_same | assumption | refine look_ne (by omega) ?_)) rfl rfl rfl (by decide)) ?_
  refine st rfl rfl (e_assign rfl) ?_
  refine stEnd (hK _ [(2, _), (3, _)] _ _ rfl ?_)
  clear hK K
  refine W.ret ?_
  refine thenR ?_
  refine ⟨.inr rfl, Ends.v0 (by repeat (first | exact self_old | assumption | refine set_old ?_ (by omega))) hfresh (by first | rfl | (simp [ltT, ltA, ltC, ltV]; try omega)) (res2 (resC t38 rfl rfl (by repeat (first | exact look_same | assumption | refine look_ne (by omega) ?_)) rfl rfl) (resT rfl) rfl rfl) ?_⟩
  rfl
theorem laws_eqIntS_nn_s  (H : Heap) (n : Nat) : Fn Try.prog 29 [.slice none 0 0, .slice none 0 0] H n (.bool true) (H) (n) := by
  refine Fn.intro' Try.func29 rfl (by kernel_rfl) Try.ntmps29 (by simp) (by omega) fun hfresh => ?_
  show W _ _ _ ⟨[(0, _), (1, _)], _, _⟩ _
  refine W.sR [0, 1] fun K hK => ?_
  refine st rfl rfl (e_assign rfl) ?_
  refine stEnd (hK _ [(0, _), (1, _)] _ _ rfl ?_)
  clear hK K
  refine W.seq ?_
  refine W.sR [0, 1, 10] fun K hK => ?_
  refine st rfl rfl (e_move rfl) ?_
  refine st rfl rfl (e_len t32 rfl) ?_
  refine st rfl rfl (e_move rfl) ?_
  refine st rfl rfl (e_len t32 rfl) ?_
  refine st rfl rfl (e_neq rfl rfl) ?_
  refine stB (fun hz => ?_) (fun hz => ?_)
  ·
    exact absurd hz (by simp)
  ·
    try simp only [decide_eq_true_eq, decide_eq_false_iff_not, Bool.not_eq_true', Bool.not_eq_false', Bool.not_eq_true, Bool.not_eq_false] at hz
    refine stEnd (hK _ [(0, _), (1, _), (10, _)] _ _ rfl ?_)
    clear hK K
    refine W.condF rfl ?_
    refine W.skip ?_
    refine thenN ?_
    refine W.seq ?_
    refine W.sR [0, 1, 5] fun K hK => ?_
    refine st rfl rfl (e_assign rfl) ?_
    refine stEnd (hK _ [(0, _), (1, _), (5, _)] _ _ rfl ?_)
    clear hK K
    refine W.block ?_
    refine W.ord [5, 0, 1] (ts' := [(5, _)] ++ [(0, _), (1, _)]) rfl ?_
    refine W.loopC [(5, _)] [] (fun κ V G μ => V = [(5, .int .i64 0)] ∧ κ = 0) _ ⟨rfl, rfl⟩ fun κ V G μ hinv hμ hkeep hfr => ?_
    obtain ⟨rfl, rfl⟩ := hinv
    refine W.seq ?_
    refine W.sR [0, 1, 5, 14] fun K hK => ?_
    refine st rfl rfl (e_move rfl) ?_
    refine st rfl rfl (e_move rfl) ?_
    refine st rfl rfl (e_len t32 rfl) ?_
    refine st rfl rfl (e_lss rfl rfl) ?_
    refine stB (fun hz => ?_) (fun hz => ?_)
    ·
      exact absurd hz (by simp)
    ·
      try simp only [decide_eq_true_eq, decide_eq_false_iff_not, Bool.not_eq_true', Bool.not_eq_false', Bool.not_eq_true, Bool.not_eq_false] at hz
      refine stEnd (hK _ [(0, _), (1, _), (5, _), (14, _)] _ _ rfl ?_)
      clear hK K
      refine W.condF rfl ?_
      refine W.exit ?_
      refine thenE ?_
      refine thenE ?_
      refine blockX ?_
      refine thenN ?_
      refine W.sR [4] fun K hK => ?_
      refine st rfl rfl (e_assign rfl) ?_
      refine stEnd (hK _ [(4, _)] _ _ rfl ?_)
      clear hK K
      refine W.ret ?_
      refine ⟨.inr rfl, Ends.v0 (by repeat (first | exact self_old | assumption | refine set_old ?_ (by omega) | refine keep_old (by assumption) ?_ (by omega) (by simp; try omega))) hfresh (by first | rfl | (simp [ltT, ltA, ltC, ltV]; try omega)) (res1 (resT rfl) rfl) ?_⟩
      rfl
theorem laws_eqShadow_nil_s  (H : Heap) (n : Nat) : Fn Try.prog 24 [.agg #[.int .i64 0, .int .i64 0, .int .i64 0, .slice none 0 0, .slice none 0 0, .slice none 0 0], .agg #[.int .i64 0, .int .i64 0, .int .i64 0, .slice none 0 0, .slice none 0 0, .slice none 0 0]] H n (.bool true) (H) (n) := by
  refine Fn.intro' Try.func24 rfl (by kernel_rfl) Try.ntmps24 (by simp) (by omega) fun hfresh => ?_
  show W _ _ _ ⟨[(0, _), (1, _)], _, _⟩ _
  refine W.sR [2, 3] fun K hK => ?_
  refine st rfl rfl (e_boxA rfl) ?_
  refine st rfl rfl (e_boxA rfl) ?_
  refine st rfl rfl (e_assign rfl) ?_
  refine stEnd (hK _ [(2, _), (3, _)] _ _ rfl ?_)
  clear hK K
  refine W.seq ?_
  refine W.sR [2, 3, 9] fun K hK => ?_
  refine st rfl rfl (e_fieldAddr t38 t3 rfl rfl) ?_
  refine st rfl rfl (e_load1 t3 rfl rfl (by repeat (first | exact look_same | assumption | refine look_ne (by omega) ?_)) rfl) ?_
  refine st rfl rfl (e_fieldAddr t38 t3 rfl rfl) ?_
  refine st rfl rfl (e_load1 t3 rfl rfl (by repeat (first | exact look_same | assumption | refine look_ne (by omega) ?_)) rfl) ?_
  refine st rfl rfl (e_neq rfl rfl) ?_
  refine stB (fun hz => ?_) (fun hz => ?_)
  ·
    simp at hz
  ·
    try simp only [decide_eq_true_eq, decide_eq_false_iff_not, Bool.not_eq_true', Bool.not_eq_false', Bool.not_eq_true, Bool.not_eq_false] at hz
    refine stEnd (hK _ [(2, _), (3, _), (9, _)] _ _ rfl ?_)
    clear hK K
    refine W.condF rfl ?_
    refine W.skip ?_
    refine thenN ?_
    refine W.seq ?_
    refine W.sR [2, 3, 14] fun K hK => ?_
    refine st rfl rfl (e_fieldAddr t38 t3 rfl rfl) ?_
    refine st rfl rfl (e_load1 t3 rfl rfl (by repeat (first | exact look_same | assumption | refine look_ne (by omega) ?_)) rfl) ?_
    refine st rfl rfl (e_fieldAddr t38 t3 rfl rfl) ?_
    refine st rfl rfl (e_load1 t3 rfl rfl (by repeat (first | exact look_same | assumption | refine look_ne (by omega) ?_)) rfl) ?_
    refine st rfl rfl (e_neq rfl rfl) ?_
    refine stB (fun hz => ?_) (fun hz => ?_)
    ·
      simp at hz
    ·
      try simp only [decide_eq_true_eq, decide_eq_false_iff_not, Bool.not_eq_true', Bool.not_eq_false', Bool.not_eq_true, Bool.not_eq_false] at hz
      refine stEnd (hK _ [(2, _), (3, _), (14, _)] _ _ rfl ?_)
      clear hK K
      refine W.condF rfl ?_
      refine W.skip ?_
      refine thenN ?_
      refine W.seq ?_
      refine W.sR [2, 3, 19] fun K hK => ?_
      refine st rfl rfl (e_fieldAddr t38 t3 rfl rfl) ?_
      refine st rfl rfl (e_load1 t3 rfl rfl (by repeat (first | exact look_same | assumption | refine look_ne (by omega) ?_)) rfl) ?_
      refine st rfl rfl (e_fieldAddr t38 t3 rfl rfl) ?_
      refine st rfl rfl (e_load1 t3 rfl rfl (by repeat (first | exact look_same | assumption | refine look_ne (by omega) ?_)) rfl) ?_
      refine st rfl rfl (e_neq rfl rfl) ?_
      refine stB (fun hz => ?_) (fun hz => ?_)
      ·
        simp at hz
      ·
        try simp only [decide_eq_true_eq, decide_eq_false_iff_not, Bool.not_eq_true', Bool.not_eq_false', Bool.not_eq_true, Bool.not_eq_false] at hz
        refine stEnd (hK _ [(2, _), (3, _), (19, _)] _ _ rfl ?_)
        clear hK K
        refine W.condF rfl ?_
        refine W.skip ?_
        refine thenN ?_
        refine W.seq ?_
        refine W.sR [2, 3, 25] fun K hK => ?_
        refine st rfl rfl (e_fieldAddr t38 t32 rfl rfl) ?_
        refine st rfl rfl (e_load1 t32 rfl rfl (by repeat (first | exact look_same | assumption | refine look_ne (by omega) ?_)) rfl) ?_
        refine st rfl rfl (e_fieldAddr t38 t32 rfl rfl) ?_
        refine st rfl rfl (e_load1 t32 rfl rfl (by repeat (first | exact look_same | assumption | refine look_ne (by omega) ?_)) rfl) ?_
        refine stC rfl rfl rfl (laws_eqIntS_nn_s  _ _ ) ?_
        refine st rfl rfl (e_not rfl) ?_
        refine stEnd (hK _ [(2, _), (3, _), (25, _)] _ _ rfl ?_)
        clear hK K
        refine W.condF rfl ?_
        refine W.skip ?_
        refine thenN ?_
        refine W.seq ?_
        refine W.sR [2, 3, 31] fun K hK => ?_
        refine st rfl rfl (e_fieldAddr t38 t32 rfl rfl) ?_
        refine st rfl rfl (e_load1 t32 rfl rfl (by repeat (first | exact look_same | assumption | refine look_ne (by omega) ?_)) rfl) ?_
        refine st rfl rfl (e_fieldAddr t38 t32 rfl rfl) ?_
        refine st rfl rfl (e_load1 t32 rfl rfl (by repeat (first | exact look_same | assumption | refine look_ne (by omega) ?_)) rfl) ?_
        refine stC rfl rfl rfl (laws_eqIntS_nn_s  _ _ ) ?_
        refine st rfl rfl (e_not rfl) ?_
        refine stEnd (hK _ [(2, _), (3, _), (31, _)] _ _ rfl ?_)
        clear hK K
        refine W.condF rfl ?_
        refine W.skip ?_
        refine thenN ?_
        refine W.seq ?_
        refine W.sR [37] fun K hK => ?_
        refine st rfl rfl (e_fieldAddr t38 t32 rfl rfl) ?_
        refine st rfl rfl (e_load1 t32 rfl rfl (by repeat (first | exact look_same | assumption | refine look_ne (by omega) ?_)) rfl) ?_
        refine st rfl rfl (e_fieldAddr t38 t32 rfl rfl) ?_
        refine st rfl rfl (e_load1 t32 rfl rfl (by repeat (first | exact look_same | assumption | refine look_ne (by omega) ?_)) rfl) ?_
        refine stC rfl rfl rfl (laws_eqIntS_nn_s  _ _ ) ?_
        refine st rfl rfl (e_not rfl) ?_
        refine stEnd (hK _ [(37, _)] _ _ rfl ?_)
        clear hK K
        refine W.condF rfl ?_
        refine W.skip ?_
        refine thenN ?_
        refine W.sR [4] fun K hK => ?_
        refine st rfl rfl (e_assign rfl) ?_
        refine stEnd (hK _ [(4, _)] _ _ rfl ?_)
        clear hK K
        refine W.ret ?_
        refine ⟨.inr rfl, Ends.v0 (by repeat (first | exact self_old | assumption | refine set_old ?_ (by omega))) hfresh (by first | rfl | (simp [ltT, ltA, ltC, ltV]; try omega)) (res1 (resT rfl) rfl) ?_⟩
        rfl
theorem laws_markIntS_nil_s (k : Int) (H : Heap) (n : Nat) : Fn Try.prog 31 [.slice none 0 0, .int .i64 k] H n (.int .i64 k) (H) (n) := by
  refine Fn.intro' Try.func31 rfl (by kernel_rfl) Try.ntmps31 (by simp) (by omega) fun hfresh => ?_
  show W _ _ _ ⟨[(0, _), (1, _)], _, _⟩ _
  refine W.sR [0, 1] fun K hK => ?_
  refine st rfl rfl (e_assign rfl) ?_
  refine stEnd (hK _ [(0, _), (1, _)] _ _ rfl ?_)
  clear hK K
  refine W.seq ?_
  refine W.sR [0, 1, 5] fun K hK => ?_
  refine st rfl rfl (e_assign rfl) ?_
  refine stEnd (hK _ [(0, _), (1, _), (5, _)] _ _ rfl ?_)
  clear hK K
  refine W.block ?_
  refine W.ord [1, 5, 0] (ts' := [(1, _), (5, _)] ++ [(0, _)]) rfl ?_
  refine W.loopC [(1, _), (5, _)] [] (fun κ V G μ => V = [(1, .int .i64 k), (5, .int .i64 0)] ∧ κ = 0) _ ⟨rfl, rfl⟩ fun κ V G μ hinv hμ hkeep hfr => ?_
  obtain ⟨rfl, rfl⟩ := hinv
  refine W.seq ?_
  refine W.sR [0, 1, 5, 9] fun K hK => ?_
  refine st rfl rfl (e_move rfl) ?_
  refine st rfl rfl (e_move rfl) ?_
  refine st rfl rfl (e_len t32 rfl) ?_
  refine st rfl rfl (e_lss rfl rfl) ?_
  refine stB (fun hz => ?_) (fun hz => ?_)
  ·
    exact absurd hz (by simp)
  ·
    try simp only [decide_eq_true_eq, decide_eq_false_iff_not, Bool.not_eq_true', Bool.not_eq_false', Bool.not_eq_true, Bool.not_eq_false] at hz
    refine stEnd (hK _ [(0, _), (1, _), (5, _), (9, _)] _ _ rfl ?_)
    clear hK K
    refine W.condF rfl ?_
    refine W.exit ?_
    refine thenE ?_
    refine thenE ?_
    refine blockX ?_
    refine thenN ?_
    refine W.sR [4] fun K hK => ?_
    refine st rfl rfl (e_move rfl) ?_
    refine st rfl rfl (e_assign rfl) ?_
    refine stEnd (hK _ [(4, _)] _ _ rfl ?_)
    clear hK K
    refine W.ret ?_
    refine ⟨.inr rfl, Ends.v0 (by repeat (first | exact self_old | assumption | refine set_old ?_ (by omega) | refine keep_old (by assumption) ?_ (by omega) (by simp; try omega))) hfresh (by first | rfl | (simp [ltT, ltA, ltC, ltV]; try omega)) (res1 (resT rfl) rfl) ?_⟩
    rfl
theorem laws_markShadow_nil_s (k : Int) (H : Heap) (n : Nat) : Fn Try.prog 35 [.agg #[.int .i64 0, .int .i64 0, .int .i64 0, .slice none 0 0, .slice none 0 0, .slice none 0 0], .int .i64 k] H n (.int .i64 k) (H) (n) := by
  refine Fn.intro' Try.func35 rfl (by kernel_rfl) Try.ntmps35 (by simp) (by omega) fun hfresh => ?_
  show W _ _ _ ⟨[(0, _), (1, _)], _, _⟩ _
  refine W.sR [1, 2] fun K hK => ?_
  refine st rfl rfl (e_boxA rfl) ?_
  refine st rfl rfl (e_assign rfl) ?_
  refine stEnd (hK _ [(1, _), (2, _)] _ _ rfl ?_)
  clear hK K
  refine W.sR [1, 2] fun K hK => ?_
  refine st rfl rfl (e_fieldAddr t38 t32 rfl rfl) ?_
  refine st rfl rfl (e_load1 t32 rfl rfl (by repeat (first | exact look_same | assumption | refine look_ne (by omega) ?_)) rfl) ?_
  refine st rfl rfl (e_move rfl) ?_
  refine stC rfl rfl rfl (laws_markIntS_nil_s _ _ _ ) ?_
  refine st rfl rfl (e_assign rfl) ?_
  refine stEnd (hK _ [(1, _), (2, _)] _ _ rfl ?_)
  clear hK K
  refine W.sR [1, 2] fun K hK => ?_
  refine st rfl rfl (e_fieldAddr t38 t32 rfl rfl) ?_
  refine st rfl rfl (e_load1 t32 rfl rfl (by repeat (first | exact look_same | assumption | refine look_ne (by omega) ?_)) rfl) ?_
  refine st rfl rfl (e_move rfl) ?_
  refine stC rfl rfl rfl (laws_markIntS_nil_s _ _ _ ) ?_
  refine st rfl rfl (e_assign rfl) ?_
  refine stEnd (hK _ [(1, _), (2, _)] _ _ rfl ?_)
  clear hK K
  refine W.sR [1] fun K hK => ?_
  refine st rfl rfl (e_fieldAddr t38 t32 rfl rfl) ?_
  refine st rfl rfl (e_load1 t32 rfl rfl (by repeat (first | exact look_same | assumption | refine look_ne (by omega) ?_)) rfl) ?_
  refine st rfl rfl (e_move rfl) ?_
  refine stC rfl rfl rfl (laws_markIntS_nil_s _ _ _ ) ?_
  refine st rfl rfl (e_assign rfl) ?_
  refine stEnd (hK _ [(1, _)] _ _ rfl ?_)
  clear hK K
  refine W.sR [4] fun K hK => ?_
  refine st rfl rfl (e_move rfl) ?_
  refine st rfl rfl (e_assign rfl) ?_
  refine stEnd (hK _ [(4, _)] _ _ rfl ?_)
  clear hK K
  refine W.ret ?_
  refine ⟨.inr rfl, Ends.v0 (by repeat (first | exact self_old | assumption | refine set_old ?_ (by omega))) hfresh (by first | rfl | (simp [ltT, ltA, ltC, ltV]; try omega)) (res1 (resT rfl) rfl) ?_⟩
  rfl
theorem laws_heldIntS_nil_s (k : Int) (H : Heap) (n : Nat) : Fn Try.prog 32 [.slice none 0 0, .int .i64 k] H n (.int .i64 k) (H) (n) := by
  refine Fn.intro' Try.func32 rfl (by kernel_rfl) Try.ntmps32 (by simp) (by omega) fun hfresh => ?_
  show W _ _ _ ⟨[(0, _), (1, _)], _, _⟩ _
  refine W.sR [0, 1] fun K hK => ?_
  refine st rfl rfl (e_assign rfl) ?_
  refine stEnd (hK _ [(0, _), (1, _)] _ _ rfl ?_)
  clear hK K
  refine W.seq ?_
  refine W.sR [0, 1, 5] fun K hK => ?_
  refine st rfl rfl (e_assign rfl) ?_
  refine stEnd (hK _ [(0, _), (1, _), (5, _)] _ _ rfl ?_)
  clear hK K
  refine W.block ?_
  refine W.ord [1, 5, 0] (ts' := [(1, _), (5, _)] ++ [(0, _)]) rfl ?_
  refine W.loopC [(1, _), (5, _)] [] (fun κ V G μ => V = [(1, .int .i64 k), (5, .int .i64 0)] ∧ κ = 0) _ ⟨rfl, rfl⟩ fun κ V G μ hinv hμ hkeep hfr => ?_
  obtain ⟨rfl, rfl⟩ := hinv
  refine W.seq ?_
  refine W.sR [0, 1, 5, 9] fun K hK => ?_
  refine st rfl rfl (e_move rfl) ?_
  refine st rfl rfl (e_move rfl) ?_
  refine st rfl rfl (e_len t32 rfl) ?_
  refine st rfl rfl (e_lss rfl rfl) ?_
  refine stB (fun hz => ?_) (fun hz => ?_)
  ·
    exact absurd hz (by simp)
  ·
    try simp only [decide_eq_true_eq, decide_eq_false_iff_not, Bool.not_eq_true', Bool.not_eq_false', Bool.not_eq_true, Bool.not_eq_false] at hz
    refine stEnd (hK _ [(0, _), (1, _), (5, _), (9, _)] _ _ rfl ?_)
    clear hK K
    refine W.condF rfl ?_
    refine W.exit ?_
    refine thenE ?_
    refine thenE ?_
    refine blockX ?_
    refine thenN ?_
    refine W.sR [4] fun K hK => ?_
    refine st rfl rfl (e_move rfl) ?_
    refine st rfl rfl (e_assign rfl) ?_
    refine stEnd (hK _ [(4, _)] _ _ rfl ?_)
    clear hK K
    refine W.ret ?_
    refine ⟨.inr rfl, Ends.v0 (by repeat (first | exact self_old | assumption | refine set_old ?_ (by omega) | refine keep_old (by assumption) ?_ (by omega) (by simp; try omega))) hfresh (by first | rfl | (simp [ltT, ltA, ltC, ltV]; try omega)) (res1 (resT rfl) rfl) ?_⟩
    rfl
theorem laws_heldShadow_nil_s (k : Int) (H : Heap) (n : Nat) (hk : 0 ≤ k) : Fn Try.prog 39 [.agg #[.int .i64 0, .int .i64 0, .int .i64 0, .slice none 0 0, .slice none 0 0, .slice none 0 0], .int .i64 k] H n (.int .i64 k) (H) (n) := by
  refine Fn.intro' Try.func39 rfl (by kernel_rfl) Try.ntmps39 (by simp) (by omega) fun hfresh => ?_
  show W _ _ _ ⟨[(0, _), (1, _)], _, _⟩ _
  refine W.sR [1, 2] fun K hK => ?_
  refine st rfl rfl (e_boxA rfl) ?_
  refine st rfl rfl (e_assign rfl) ?_
  refine stEnd (hK _ [(1, _), (2, _)] _ _ rfl ?_)
  clear hK K
  refine W.sR [1, 2] fun K hK => ?_
  refine st rfl rfl (e_fieldAddr t38 t32 rfl rfl) ?_
  refine st rfl rfl (e_load1 t32 rfl rfl (by repeat (first | exact look_same | assumption | refine look_ne (by omega) ?_)) rfl) ?_
  refine st rfl rfl (e_move rfl) ?_
  refine stC rfl rfl rfl (laws_heldIntS_nil_s _ _ _ ) ?_
  refine st rfl rfl (e_assign rfl) ?_
  refine stEnd (hK _ [(1, _), (2, _)] _ _ rfl ?_)
  clear hK K
  refine W.seq ?_
  refine W.sR [1, 2, 10] fun K hK => ?_
  refine st rfl rfl (e_move rfl) ?_
  refine st rfl rfl (e_lss rfl rfl) ?_
  refine stB (fun hz => ?_) (fun hz => ?_)
  ·
    (exfalso; simp only [decide_eq_true_eq] at hz; omega)
  ·
    try simp only [decide_eq_true_eq, decide_eq_false_iff_not, Bool.not_eq_true', Bool.not_eq_false', Bool.not_eq_true, Bool.not_eq_false] at hz
    refine stEnd (hK _ [(1, _), (2, _), (10, _)] _ _ rfl ?_)
    clear hK K
    refine W.condF rfl ?_
    refine W.skip ?_
    refine thenN ?_
    refine W.sR [1, 2] fun K hK => ?_
    refine st rfl rfl (e_fieldAddr t38 t32 rfl rfl) ?_
    refine st rfl rfl (e_load1 t32 rfl rfl (by repeat (first | exact look_same | assumption | refine look_ne (by omega) ?_)) rfl) ?_
    refine st rfl rfl (e_move rfl) ?_
    refine stC rfl rfl rfl (laws_heldIntS_nil_s _ _ _ ) ?_
    refine st rfl rfl (e_assign rfl) ?_
    refine stEnd (hK _ [(1, _), (2, _)] _ _ rfl ?_)
    clear hK K
    refine W.seq ?_
    refine W.sR [1, 2, 16] fun K hK => ?_
    refine st rfl rfl (e_move rfl) ?_
    refine st rfl rfl (e_lss rfl rfl) ?_
    refine stB (fun hz => ?_) (fun hz => ?_)
    ·
      (exfalso; simp only [decide_eq_true_eq] at hz; omega)
    ·
      try simp only [decide_eq_true_eq, decide_eq_false_iff_not, Bool.not_eq_true', Bool.not_eq_false', Bool.not_eq_true, Bool.not_eq_false] at hz
      refine stEnd (hK _ [(1, _), (2, _), (16, _)] _ _ rfl ?_)
      clear hK K
      refine W.condF rfl ?_
      refine W.skip ?_
      refine thenN ?_
      refine W.sR [1] fun K hK => ?_
      refine st rfl rfl (e_fieldAddr t38 t32 rfl rfl) ?_
      refine st rfl rfl (e_load1 t32 rfl rfl (by repeat (first | exact look_same | assumption | refine look_ne (by omega) ?_)) rfl) ?_
      refine st rfl rfl (e_move rfl) ?_
      refine stC rfl rfl rfl (laws_heldIntS_nil_s _ _ _ ) ?_
      refine st rfl rfl (e_assign rfl) ?_
      refine stEnd (hK _ [(1, _)] _ _ rfl ?_)
      clear hK K
      refine W.seq ?_
      refine W.sR [1, 22] fun K hK => ?_
      refine st rfl rfl (e_move rfl) ?_
      refine st rfl rfl (e_lss rfl rfl) ?_
      refine stB (fun hz => ?_) (fun hz => ?_)
      ·
        (exfalso; simp only [decide_eq_true_eq] at hz; omega)
      ·
        try simp only [decide_eq_true_eq, decide_eq_false_iff_not, Bool.not_eq_true', Bool.not_eq_false', Bool.not_eq_true, Bool.not_eq_false] at hz
        refine stEnd (hK _ [(1, _), (22, _)] _ _ rfl ?_)
        clear hK K
        refine W.condF rfl ?_
        refine W.skip ?_
        refine thenN ?_
        refine W.sR [4] fun K hK => ?_
        refine st rfl rfl (e_move rfl) ?_
        refine st rfl rfl (e_assign rfl) ?_
        refine stEnd (hK _ [(4, _)] _ _ rfl ?_)
        clear hK K
        refine W.ret ?_
        refine ⟨.inr rfl, Ends.v0 (by repeat (first | exact self_old | assumption | refine set_old ?_ (by omega))) hfresh (by first | rfl | (simp [ltT, ltA, ltC, ltV]; try omega)) (res1 (resT rfl) rfl) ?_⟩
        rfl
set_option maxHeartbeats 2000000 in
theorem laws_FnExactCleanShadow_no (X Y Z : Int) (s0 s1 s2 : Value) (x0 x1 x2 : List Int) (r : Nat) (H : Heap) (n : Nat) (hr0 : RowI H r s0 x0) (hr1 : RowI H r s1 x1) (hr2 : RowI H r s2 x2) (hrn : r ≤ n) (hlen : x0.length + x1.length + x2.length ≤ 1048576) (hok : shadB X Y Z x0 x1 x2 = false) : Fn Try.prog 8 [.agg #[.int .i64 X, .int .i64 Y, .int .i64 Z, s0, s1, s2]] H n (.bool true) (H) (n) := by
  refine Fn.intro' Try.func8 rfl (by kernel_rfl) Try.ntmps8 (by simp) (by omega) fun hfresh => ?_
  obtain ⟨p0, e0, rfl⟩ := hr0.form
  obtain ⟨p1, e1, rfl⟩ := hr1.form
  obtain ⟨p2, e2, rfl⟩ := hr2.form
  show W _ _ _ ⟨[(0, _)], _, _⟩ _
  refine W.sR [1] fun K hK => ?_
  refine st rfl rfl (e_boxA rfl) ?_
  refine st rfl rfl (e_assign rfl) ?_
  refine stEnd (hK _ [(1, _)] _ _ rfl ?_)
  clear hK K
  refine W.sR [1, 3] fun K hK => ?_
  refine st rfl rfl (e_assign rfl) ?_
  refine stEnd (hK _ [(1, _), (3, _)] _ _ rfl ?_)
  clear hK K
  refine W.sR [1, 3] fun K hK => ?_
  refine st rfl rfl (e_loadA t34 rfl rfl (by repeat (first | exact look_same | assumption | refine look_ne (by omega) ?_)) rfl rfl) ?_
  refine st rfl rfl (e_move rfl) ?_
  refine stC rfl rfl rfl (laws_szShadow_s _ _ _ _ _ _ _ _ _ _ _ _ _ _ _ (by omega)) ?_
  rw [if_neg (by omega)]
  refine st rfl rfl (e_assign rfl) ?_
  refine stEnd (hK _ [(1, _), (3, _)] _ _ rfl ?_)
  clear hK K
  refine W.seq ?_
  refine W.sR [1, 18] fun K hK => ?_
  refine st rfl rfl (e_move rfl) ?_
  refine st rfl rfl (e_lss rfl rfl) ?_
  refine stB (fun hz => ?_) (fun hz => ?_)
  ·
    first | (have hz2 := of_decide_eq_true hz; omega) | (simp at hz; done) | (simp at hz; omega)
  ·
    try simp only [decide_eq_true_eq, decide_eq_false_iff_not, Bool.not_eq_true', Bool.not_eq_false', Bool.not_eq_true, Bool.not_eq_false] at hz
    refine stEnd (hK _ [(1, _), (18, _)] _ _ rfl ?_)
    clear hK K
    refine W.condF rfl ?_
    refine W.skip ?_
    refine thenN ?_
    refine W.sR [1, 4, 5] fun K hK => ?_
    refine st rfl rfl (e_loadA t34 rfl rfl (by repeat (first | exact look_same | assumption | refine look_ne (by omega) ?_)) rfl rfl) ?_
    refine stC rfl rfl rfl (laws_toShadow_s _ _ _ _ _ _ _ _ _ _ _ _ (RowI.keep hr0 (Nat.le_refl _) (by repeat (first | exact self_old | assumption | refine set_old ?_ (by omega)))) (RowI.keep hr1 (Nat.le_refl _) (by repeat (first | exact self_old | assumption | refine set_old ?_ (by omega)))) (RowI.keep hr2 (Nat.le_refl _) (by repeat (first | exact self_old | assumption | refine set_old ?_ (by omega)))) (by omega) (by omega) (by omega) (by omega)) ?_
    refine stC rfl rfl rfl (spec_CleanShadow_no_s _ _ _ _ _ _ _ _ _ _ _ _ _ _ (by repeat (first | exact look_same | assumption | refine look_ne (by omega) ?_)) (by repeat (first | exact look_same | assumption | refine look_ne (by omega) ?_)) (by repeat (first | exact look_same | assumption | refine look_ne (by omega) ?_)) (by omega) (by omega) (by omega) (by assumption)) ?_
    refine st rfl rfl (e_move rfl) ?_
    refine st rfl rfl (e_extract rfl rfl) ?_
    refine st rfl rfl (e_extract rfl rfl) ?_
    refine st rfl rfl (e_alloc t38 rfl) ?_
    refine stN rfl (e_storeA t38 rfl rfl (by repeat (first | exact look_same | assumption | refine look_ne (by omega) ?_)) rfl rfl rfl (by decide)) ?_
    refine st rfl rfl (e_assign rfl) ?_
    refine stEnd (hK _ [(1, _), (4, _), (5, _)] _ _ rfl ?_)
    clear hK K
    refine W.sR [1, 4, 5, 6] fun K hK => ?_
    refine st rfl rfl (e_loadA t34 rfl rfl (by repeat (first | exact look_same | assumption | refine look_ne (by omega) ?_)) rfl rfl) ?_
    refine stC rfl rfl rfl (laws_toShadow_s _ _ _ _ _ _ _ _ _ _ _ _ (RowI.keep hr0 (Nat.le_refl _) (by repeat (first | exact self_old | assumption | refine set_old ?_ (by omega)))) (RowI.keep hr1 (Nat.le_refl _) (by repeat (first | exact self_old | assumption | refine set_old ?_ (by omega)))) (RowI.keep hr2 (Nat.le_refl _) (by repeat (first | exact self_old | assumption | refine set_old ?_ (by omega)))) (by omega) (by omega) (by omega) (by omega)) ?_
    refine st rfl rfl (e_alloc t38 rfl) ?_
    refine stN rfl (e_storeA t38 rfl rfl (by repeat (first | exact look_same | assumption | refine look_ne (by omega) ?_)) rfl rfl rfl (by decide)) ?_
    refine stEnd (hK _ [(1, _), (4, _), (5, _), (6, _)] _ _ rfl ?_)
    clear hK K
    refine W.sR [1, 4, 5, 6, 7, 8] fun K hK => ?_
    refine st rfl rfl (e_loadA t38 rfl rfl (by repeat (first | exact look_same | assumption | refine look_ne (by omega) ?_)) rfl rfl) ?_
    refine stC rfl rfl rfl (impl_CleanShadow_no_s _ _ _ _ _ _ _ _ _ _ _ _ _ _ (by repeat (first | exact look_same | assumption | refine look_ne (by omega) ?_)) (by repeat (first | exact look_same | assumption | refine look_ne (by omega) ?_)) (by repeat (first | exact look_same | assumption | refine look_ne (by omega) ?_)) (by omega) (by omega) (by omega) (by assumption)) ?_
    refine st rfl rfl (e_move rfl) ?_
    refine st rfl rfl (e_extract rfl rfl) ?_
    refine st rfl rfl (e_extract rfl rfl) ?_
    refine st rfl rfl (e_alloc t38 rfl) ?_
    refine stN rfl (e_storeA t38 rfl rfl (by repeat (first | exact look_same | assumption | refine look_ne (by omega) ?_)) rfl rfl rfl (by decide)) ?_
    refine st rfl rfl (e_assign rfl) ?_
    refine stEnd (hK _ [(1, _), (4, _), (5, _), (6, _), (7, _), (8, _)] _ _ rfl ?_)
    clear hK K
    refine W.seq ?_
    refine W.sR [1, 4, 5, 6, 7, 8, 40] fun K hK => ?_
    refine st rfl rfl (e_loadA t38 rfl rfl (by repeat (first | exact look_same | assumption | refine look_ne (by omega) ?_)) rfl rfl) ?_
    refine st rfl rfl (e_loadA t38 rfl rfl (by repeat (first | exact look_same | assumption | refine look_ne (by omega) ?_)) rfl rfl) ?_
    refine stC rfl rfl rfl (laws_eqShadow_nil_s  _ _ ) ?_
    refine st rfl rfl (e_not rfl) ?_
    refine st rfl rfl (e_move rfl) ?_
    refine st rfl rfl (e_move rfl) ?_
    refine st rfl rfl (e_move rfl) ?_
    refine st rfl rfl (e_neqB_same t4 rfl rfl) ?_
    refine st rfl rfl (e_pickF rfl rfl) ?_
    refine stEnd (hK _ [(1, _), (4, _), (5, _), (6, _), (7, _), (8, _), (40, _)] _ _ rfl ?_)
    clear hK K
    refine W.condF rfl ?_
    refine W.skip ?_
    refine thenN ?_
    refine W.seq ?_
    refine W.sD [1, 4, 5, 6, 7, 8, 45] [0, 0, 2, 7, 15] (by kernel_rfl) (by kernel_rfl) fun K hK => ?_
    refine dL rfl rfl rfl (by omega) (accB_ok rfl) (e_loadA t38 rfl rfl (by repeat (first | exact look_same | assumption | refine look_ne (by omega) ?_)) rfl rfl) ?_
    refine dL rfl rfl rfl (by omega) (accB_ok rfl) (e_loadA t34 rfl rfl (by repeat (first | exact look_same | assumption | refine look_ne (by omega) ?_)) rfl rfl) ?_
    refine dC3 rfl rfl rfl rfl (laws_toShadow_s _ _ _ _ _ _ _ _ _ _ _ _ (RowI.keep hr0 (Nat.le_refl _) (by repeat (first | exact self_old | assumption | refine set_old ?_ (by omega) | refine hide_old ?_ (by omega) (by first | exact List.not_mem_nil | (simp [hidden, Nat.testBit]; done) | (simp [hidden, Nat.testBit]; omega))))) (RowI.keep hr1 (Nat.le_refl _) (by repeat (first | exact self_old | assumption | refine set_old ?_ (by omega) | refine hide_old ?_ (by omega) (by first | exact List.not_mem_nil | (simp [hidden, Nat.testBit]; done) | (simp [hidden, Nat.testBit]; omega))))) (RowI.keep hr2 (Nat.le_refl _) (by repeat (first | exact self_old | assumption | refine set_old ?_ (by omega) | refine hide_old ?_ (by omega) (by first | exact List.not_mem_nil | (simp [hidden, Nat.testBit]; done) | (simp [hidden, Nat.testBit]; omega))))) (by omega) (by omega) (by omega) (by omega)) (by repeat (first | exact trivial | refine And.intro (Or.inl rfl) ?_ | refine And.intro (Or.inr trivial) ?_ | refine And.intro (Or.inr (And.intro (Or.inl (by omega)) (by first | (simp; done) | (simp; omega)))) ?_ | refine And.intro (Or.inr (And.intro (Or.inr (by omega)) (by first | (simp; done) | (simp; omega)))) ?_ | refine And.intro (Or.inr (by simp [compat]; try omega)) ?_)) (by first | exact ⟨List.not_mem_nil, List.not_mem_nil, List.not_mem_nil⟩ | (simp [hidden, Nat.testBit]; done) | (simp [hidden, Nat.testBit]; omega)) ?_
    refine dC rfl rfl rfl rfl (laws_eqShadow_s _ _ _ _ _ _ _ _ _ _ _ _ _ _ _ _ _ _ _ _ _ _ _ _ _ _ (by repeat (first | exact look_same | assumption | refine look_ne (by omega) ?_ | refine look_hide (by omega) (by first | exact List.not_mem_nil | (simp [hidden, Nat.testBit]; done) | (simp [hidden, Nat.testBit]; omega)) ?_)) (by repeat (first | exact look_same | assumption | refine look_ne (by omega) ?_ | refine look_hide (by omega) (by first | exact List.not_mem_nil | (simp [hidden, Nat.testBit]; done) | (simp [hidden, Nat.testBit]; omega)) ?_)) (by repeat (first | exact look_same | assumption | refine look_ne (by omega) ?_ | refine look_hide (by omega) (by first | exact List.not_mem_nil | (simp [hidden, Nat.testBit]; done) | (simp [hidden, Nat.testBit]; omega)) ?_)) (by repeat (first | exact look_same | assumption | refine look_ne (by omega) ?_ | refine look_hide (by omega) (by first | exact List.not_mem_nil | (simp [hidden, Nat.testBit]; done) | (simp [hidden, Nat.testBit]; omega)) ?_)) (by repeat (first | exact look_same | assumption | refine look_ne (by omega) ?_ | refine look_hide (by omega) (by first | exact List.not_mem_nil | (simp [hidden, Nat.testBit]; done) | (simp [hidden, Nat.testBit]; omega)) ?_)) (by repeat (first | exact look_same | assumption | refine look_ne (by omega) ?_ | refine look_hide (by omega) (by first | exact List.not_mem_nil | (simp [hidden, Nat.testBit]; done) | (simp [hidden, Nat.testBit]; omega)) ?_)) (by omega) (by omega) (by omega)) (accB_ok rfl) ?_
    rw [decide_eq_true (by simp)]
    refine dP rfl rfl rfl (e_not rfl) ?_
    refine dEnd (hK _ [(1, _), (4, _), (5, _), (6, _), (7, _), (8, _), (45, _)] _ _ rfl ?_)
    clear hK K
    refine W.condF rfl ?_
    refine W.skip ?_
    refine thenN ?_
    refine W.sR [1, 4, 5, 6, 7, 8, 9] fun K hK => ?_
    refine st rfl rfl (e_assign rfl) ?_
    refine stEnd (hK _ [(1, _), (4, _), (5, _), (6, _), (7, _), (8, _), (9, _)] _ _ rfl ?_)
    clear hK K
    refine W.sR [1, 4, 5, 7, 8, 9] fun K hK => ?_
    refine st rfl rfl (e_loadA t38 rfl rfl (by repeat (first | exact look_same | assumption | refine look_ne (by omega) ?_)) rfl rfl) ?_
    refine st rfl rfl (e_move rfl) ?_
    refine stC rfl rfl rfl (laws_markShadow_s _ _ _ _ _ _ _ _ _ _ _ _ _ _ _ (by repeat (first | exact look_same | assumption | refine look_ne (by omega) ?_)) (by repeat (first | exact look_same | assumption | refine look_ne (by omega) ?_)) (by repeat (first | exact look_same | assumption | refine look_ne (by omega) ?_)) (by first | exact ints_length _ | simp) (by first | exact ints_length _ | simp) (by first | exact ints_length _ | simp) (by first | assumption | exact ints_plain _) (by first | assumption | exact ints_plain _) (by first | assumption | exact ints_plain _) (by omega) (by omega)) ?_
    rw [markV_ints, markV_ints, markV_ints]
    refine st rfl rfl (e_assign rfl) ?_
    refine stEnd (hK _ [(1, _), (4, _), (5, _), (7, _), (8, _), (9, _)] _ _ rfl ?_)
    clear hK K
    refine W.seq ?_
    refine W.sR [1, 4, 5, 7, 61] fun K hK => ?_
    refine st rfl rfl (e_move rfl) ?_
    refine st rfl rfl (e_lss rfl rfl) ?_
    refine st rfl rfl (e_move rfl) ?_
    refine stB (fun hb2 => ?_) (fun hb2 => ?_)
    ·
      try simp only [decide_eq_true_eq, decide_eq_false_iff_not, Bool.not_eq_true', Bool.not_eq_false', Bool.not_eq_true, Bool.not_eq_false] at hb2
      refine stS rfl rfl ?_
      refine stS rfl rfl ?_
      refine stS rfl rfl ?_
      refine stS rfl rfl ?_
      refine st rfl rfl (e_pickT rfl rfl) ?_
      refine st rfl rfl (e_move rfl) ?_
      refine stS rfl rfl ?_
      refine stS rfl rfl ?_
      refine stS rfl rfl ?_
      refine st rfl rfl (e_pickT rfl rfl) ?_
      refine stEnd (hK _ [(1, _), (4, _), (5, _), (7, _), (61, _)] _ _ rfl ?_)
      clear hK K
      refine W.condT rfl ?_
      refine W.sR [2] fun K hK => ?_
      refine st rfl rfl (e_assign rfl) ?_
      refine stEnd (hK _ [(2, _)] _ _ rfl ?_)
      clear hK K
      refine W.ret ?_
      refine thenR ?_
      refine ⟨.inr rfl, Ends.v0 (by repeat (first | exact self_old | assumption | refine set_old ?_ (by omega))) hfresh (by first | rfl | (simp [ltT, ltA, ltC, ltV]; try omega)) (res1 (resT rfl) rfl) ?_⟩
      first | rfl | (exfalso; omega)
    ·
      try simp only [decide_eq_true_eq, decide_eq_false_iff_not, Bool.not_eq_true', Bool.not_eq_false', Bool.not_eq_true, Bool.not_eq_false] at hb2
      refine st rfl rfl (e_loadA t38 rfl rfl (by repeat (first | exact look_same | assumption | refine look_ne (by omega) ?_)) rfl rfl) ?_
      refine st rfl rfl (e_loadA t38 rfl rfl (by repeat (first | exact look_same | assumption | refine look_ne (by omega) ?_)) rfl rfl) ?_
      refine stC rfl rfl rfl (laws_eqShadow_nil_s  _ _ ) ?_
      refine st rfl rfl (e_not rfl) ?_
      refine st rfl rfl (e_pickF rfl rfl) ?_
      refine st rfl rfl (e_move rfl) ?_
      refine st rfl rfl (e_move rfl) ?_
      refine st rfl rfl (e_move rfl) ?_
      refine st rfl rfl (e_neqB_same t4 rfl rfl) ?_
      refine st rfl rfl (e_pickF rfl rfl) ?_
      refine stEnd (hK _ [(1, _), (4, _), (5, _), (7, _), (61, _)] _ _ rfl ?_)
      clear hK K
      refine W.condF rfl ?_
      refine W.skip ?_
      refine thenN ?_
      refine W.sR [1, 4, 5, 7, 10] fun K hK => ?_
      refine st rfl rfl (e_assign rfl) ?_
      refine stEnd (hK _ [(1, _), (4, _), (5, _), (7, _), (10, _)] _ _ rfl ?_)
      clear hK K
      refine W.sR [1, 4, 5, 7, 10] fun K hK => ?_
      refine st rfl rfl (e_loadA t38 rfl rfl (by repeat (first | exact look_same | assumption | refine look_ne (by omega) ?_)) rfl rfl) ?_
      refine st rfl rfl (e_move rfl) ?_
      refine stC rfl rfl rfl (laws_markShadow_nil_s _ _ _ ) ?_
      refine st rfl rfl (e_assign rfl) ?_
      refine stEnd (hK _ [(1, _), (4, _), (5, _), (7, _), (10, _)] _ _ rfl ?_)
      clear hK K
      refine W.sR [1, 4, 5, 7, 10, 11] fun K hK => ?_
      refine st rfl rfl (e_assign rfl) ?_
      refine stEnd (hK _ [(1, _), (4, _), (5, _), (7, _), (10, _), (11, _)] _ _ rfl ?_)
      clear hK K
      refine W.sR [1, 4, 5, 7, 10, 11] fun K hK => ?_
      refine st rfl rfl (e_loadA t38 rfl rfl (by repeat (first | exact look_same | assumption | refine look_ne (by omega) ?_)) rfl rfl) ?_
      refine st rfl rfl (e_move rfl) ?_
      refine stC rfl rfl rfl (laws_heldShadow_nil_s _ _ _ (by omega)) ?_
      refine st rfl rfl (e_assign rfl) ?_
      refine stEnd (hK _ [(1, _), (4, _), (5, _), (7, _), (10, _), (11, _)] _ _ rfl ?_)
      clear hK K
      refine W.seq ?_
      refine W.sR [1, 4, 5, 7, 10, 11, 69] fun K hK => ?_
      refine st rfl rfl (e_move rfl) ?_
      refine st rfl rfl (e_lss rfl rfl) ?_
      refine stB (fun hz => ?_) (fun hz => ?_)
      ·
        first | (have hz2 := of_decide_eq_true hz; omega) | (simp at hz; done) | (simp at hz; omega)
      ·
        try simp only [decide_eq_true_eq, decide_eq_false_iff_not, Bool.not_eq_true', Bool.not_eq_false', Bool.not_eq_true, Bool.not_eq_false] at hz
        refine stEnd (hK _ [(1, _), (4, _), (5, _), (7, _), (10, _), (11, _), (69, _)] _ _ rfl ?_)
        clear hK K
        refine W.condF rfl ?_
        refine W.skip ?_
        refine thenN ?_
        refine W.seq ?_
        refine W.sR [1, 4, 5, 7, 10, 72] fun K hK => ?_
        refine st rfl rfl (e_move rfl) ?_
        refine st rfl rfl (e_move rfl) ?_
        refine st rfl rfl (e_neq rfl rfl) ?_
        refine stB (fun hz => ?_) (fun hz => ?_)
        ·
          first | (have hz2 := of_decide_eq_true hz; omega) | (simp at hz; done) | (simp at hz; omega)
        ·
          try simp only [decide_eq_true_eq, decide_eq_false_iff_not, Bool.not_eq_true', Bool.not_eq_false', Bool.not_eq_true, Bool.not_eq_false] at hz
          refine stEnd (hK _ [(1, _), (4, _), (5, _), (7, _), (10, _), (72, _)] _ _ rfl ?_)
          clear hK K
          refine W.condF rfl ?_
          refine W.skip ?_
          refine thenN ?_
          refine W.sR [4, 5, 7, 10, 12, 13] fun K hK => ?_
          refine st rfl rfl (e_loadA t34 rfl rfl (by repeat (first | exact look_same | assumption | refine look_ne (by omega) ?_)) rfl rfl) ?_
          refine stC rfl rfl rfl (laws_toShadow_s _ _ _ _ _ _ _ _ _ _ _ _ (RowI.keep hr0 (Nat.le_refl _) (by repeat (first | exact self_old | assumption | refine set_old ?_ (by omega)))) (RowI.keep hr1 (Nat.le_refl _) (by repeat (first | exact self_old | assumption | refine set_old ?_ (by omega)))) (RowI.keep hr2 (Nat.le_refl _) (by repeat (first | exact self_old | assumption | refine set_old ?_ (by omega)))) (by omega) (by omega) (by omega) (by omega)) ?_
          refine stC rfl rfl rfl (impl_CleanShadow_no_s _ _ _ _ _ _ _ _ _ _ _ _ _ _ (by repeat (first | exact look_same | assumption | refine look_ne (by omega) ?_)) (by repeat (first | exact look_same | assumption | refine look_ne (by omega) ?_)) (by repeat (first | exact look_same | assumption | refine look_ne (by omega) ?_)) (by omega) (by omega) (by omega) (by assumption)) ?_
          refine st rfl rfl (e_move rfl) ?_
          refine st rfl rfl (e_extract rfl rfl) ?_
          refine st rfl rfl (e_extract rfl rfl) ?_
          refine st rfl rfl (e_alloc t38 rfl) ?_
          refine stN rfl (e_storeA t38 rfl rfl (by repeat (first | exact look_same | assumption | refine look_ne (by omega) ?_)) rfl rfl rfl (by decide)) ?_
          refine st rfl rfl (e_assign rfl) ?_
          refine stEnd (hK _ [(4, _), (5, _), (7, _), (10, _), (12, _), (13, _)] _ _ rfl ?_)
          clear hK K
          refine W.seq ?_
          refine W.sR [7, 10, 87] fun K hK => ?_
          refine st rfl rfl (e_loadA t38 rfl rfl (by repeat (first | exact look_same | assumption | refine look_ne (by omega) ?_)) rfl rfl) ?_
          refine st rfl rfl (e_loadA t38 rfl rfl (by repeat (first | exact look_same | assumption | refine look_ne (by omega) ?_)) rfl rfl) ?_
          refine stC rfl rfl rfl (laws_eqShadow_nil_s  _ _ ) ?_
          refine st rfl rfl (e_not rfl) ?_
          refine st rfl rfl (e_move rfl) ?_
          refine st rfl rfl (e_move rfl) ?_
          refine st rfl rfl (e_move rfl) ?_
          refine st rfl rfl (e_neqB_same t4 rfl rfl) ?_
          refine st rfl rfl (e_pickF rfl rfl) ?_
          refine stEnd (hK _ [(7, _), (10, _), (87, _)] _ _ rfl ?_)
          clear hK K
          refine W.condF rfl ?_
          refine W.skip ?_
          refine thenN ?_
          refine W.sR [7, 10, 11] fun K hK => ?_
          refine st rfl rfl (e_assign rfl) ?_
          refine stEnd (hK _ [(7, _), (10, _), (11, _)] _ _ rfl ?_)
          clear hK K
          refine W.sR [10, 11] fun K hK => ?_
          refine st rfl rfl (e_loadA t38 rfl rfl (by repeat (first | exact look_same | assumption | refine look_ne (by omega) ?_)) rfl rfl) ?_
          refine st rfl rfl (e_move rfl) ?_
          refine stC rfl rfl rfl (laws_heldShadow_nil_s _ _ _ (by omega)) ?_
          refine st rfl rfl (e_assign rfl) ?_
          refine stEnd (hK _ [(10, _), (11, _)] _ _ rfl ?_)
          clear hK K
          refine W.seq ?_
          refine W.sR [10, 11, 92] fun K hK => ?_
          refine st rfl rfl (e_move rfl) ?_
          refine st rfl rfl (e_lss rfl rfl) ?_
          refine stB (fun hz => ?_) (fun hz => ?_)
          ·
            first | (have hz2 := of_decide_eq_true hz; omega) | (simp at hz; done) | (simp at hz; omega)
          ·
            try simp only [decide_eq_true_eq, decide_eq_false_iff_not, Bool.not_eq_true', Bool.not_eq_false', Bool.not_eq_true, Bool.not_eq_false] at hz
            refine stEnd (hK _ [(10, _), (11, _), (92, _)] _ _ rfl ?_)
            clear hK K
            refine W.condF rfl ?_
            refine W.skip ?_
            refine thenN ?_
            refine W.seq ?_
            refine W.sR [95] fun K hK => ?_
            refine st rfl rfl (e_move rfl) ?_
            refine st rfl rfl (e_move rfl) ?_
            refine st rfl rfl (e_neq rfl rfl) ?_
            refine stB (fun hz => ?_) (fun hz => ?_)
            ·
              first | (have hz2 := of_decide_eq_true hz; omega) | (simp at hz; done) | (simp at hz; omega)
            ·
              try simp only [decide_eq_true_eq, decide_eq_false_iff_not, Bool.not_eq_true', Bool.not_eq_false', Bool.not_eq_true, Bool.not_eq_false] at hz
              refine stEnd (hK _ [(95, _)] _ _ rfl ?_)
              clear hK K
              refine W.condF rfl ?_
              refine W.skip ?_
              refine thenN ?_
              refine W.sR [2] fun K hK => ?_
              refine st rfl rfl (e_assign rfl) ?_
              refine stEnd (hK _ [(2, _)] _ _ rfl ?_)
              clear hK K
              refine W.ret ?_
              refine ⟨.inr rfl, Ends.v0 (by repeat (first | exact self_old | assumption | refine set_old ?_ (by omega))) hfresh (by first | rfl | (simp [ltT, ltA, ltC, ltV]; try omega)) (res1 (resT rfl) rfl) ?_⟩
              first | rfl | (exfalso; omega)
set_option maxHeartbeats 2000000 in
theorem laws_FnExactCleanShadow_big (X Y Z : Int) (s0 s1 s2 : Value) (x0 x1 x2 : List Int) (r : Nat) (H : Heap) (n : Nat) (hr0 : RowI H r s0 x0) (hr1 : RowI H r s1 x1) (hr2 : RowI H r s2 x2) (hrn : r ≤ n) (hlen : ¬ x0.length + x1.length + x2.length ≤ 1048576) (hmax : x0.length ≤ 9223372036854775807 ∧ x1.length ≤ 9223372036854775807 ∧ x2.length ≤ 9223372036854775807) : Fn Try.prog 8 [.agg #[.int .i64 X, .int .i64 Y, .int .i64 Z, s0, s1, s2]] H n (.bool true) (H) (n) := by
  refine Fn.intro' Try.func8 rfl (by kernel_rfl) Try.ntmps8 (by simp) (by omega) fun hfresh => ?_
  obtain ⟨p0, e0, rfl⟩ := hr0.form
  obtain ⟨p1, e1, rfl⟩ := hr1.form
  obtain ⟨p2, e2, rfl⟩ := hr2.form
  show W _ _ _ ⟨[(0, _)], _, _⟩ _
  refine W.sR [1] fun K hK => ?_
  refine st rfl rfl (e_boxA rfl) ?_
  refine st rfl rfl (e_assign rfl) ?_
  refine stEnd (hK _ [(1, _)] _ _ rfl ?_)
  clear hK K
  refine W.sR [1, 3] fun K hK => ?_
  refine st rfl rfl (e_assign rfl) ?_
  refine stEnd (hK _ [(1, _), (3, _)] _ _ rfl ?_)
  clear hK K
  refine W.sR [1, 3] fun K hK => ?_
  refine st rfl rfl (e_loadA t34 rfl rfl (by repeat (first | exact look_same | assumption | refine look_ne (by omega) ?_)) rfl rfl) ?_
  refine st rfl rfl (e_move rfl) ?_
  refine stC rfl rfl rfl (laws_szShadow_s _ _ _ _ _ _ _ _ _ _ _ _ _ _ _ (by omega)) ?_
  rw [if_pos (by omega)]
  refine st rfl rfl (e_assign rfl) ?_
  refine stEnd (hK _ [(1, _), (3, _)] _ _ rfl ?_)
  clear hK K
  refine W.seq ?_
  refine W.sR [1, 18] fun K hK => ?_
  refine st rfl rfl (e_move rfl) ?_
  refine st rfl rfl (e_lss rfl rfl) ?_
  refine stB (fun hz => ?_) (fun hz => ?_)
  ·
    try simp only [decide_eq_true_eq, decide_eq_false_iff_not, Bool.not_eq_true', Bool.not_eq_false', Bool.not_eq_true, Bool.not_eq_false] at hz
    refine stEnd (hK _ [(1, _), (18, _)] _ _ rfl ?_)
    clear hK K
    refine W.condT rfl ?_
    refine W.sR [2] fun K hK => ?_
    refine st rfl rfl (e_assign rfl) ?_
    refine stEnd (hK _ [(2, _)] _ _ rfl ?_)
    clear hK K
    refine W.ret ?_
    refine thenR ?_
    refine ⟨.inr rfl, Ends.v0 (by repeat (first | exact self_old | assumption | refine set_old ?_ (by omega))) hfresh (by first | rfl | (simp [ltT, ltA, ltC, ltV]; try omega)) (res1 (resT rfl) rfl) ?_⟩
    rfl
  ·
    first | (simp at hz; done) | (simp at hz; omega)
end Go.Sep.Walks
