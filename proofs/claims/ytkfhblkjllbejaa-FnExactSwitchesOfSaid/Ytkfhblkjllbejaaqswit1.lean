/- Part of a proof: qswit1 -/
import Derived.Test.Ytkfhblkjllbejaaqswit0
namespace Go.Sep.Walks
open Go Go.Sep Go.Proofs
set_option linter.unusedVariables false
set_option linter.unusedSimpArgs false
theorem impl_box_corners_s (X Y Z : Int) (c : C) (p q : Nat) (d e : Int) (H : Heap) (n : Nat) (hX : (1 ≤ X ∧ X ≤ 4) ∧ (1 ≤ Y ∧ Y ≤ 4) ∧ (1 ≤ Z ∧ Z ≤ 4)) (hp : p < 3) (hq : q < 3) : Fn Try.prog 133 [.agg #[.int .i64 X, .int .i64 Y, .int .i64 Z], .agg #[.int .i64 c.1, .int .i64 c.2.1, .int .i64 c.2.2, .int .i64 d, .int .i64 e], .int .i64 (p : Nat), .int .i64 (q : Nat)] H n (.tuple #[.agg (flat (corN c p q d e 4)).toArray, .bool (rectB X Y Z c p q d e)]) (H) (n) := by
  refine Fn.intro' Try.func133 rfl (by kernel_rfl) Try.ntmps133 (by simp) (by omega) fun hfresh => ?_
  show W _ _ _ ⟨[(0, _), (1, _), (2, _), (3, _)], _, _⟩ _
  refine W.sR [2, 3, 4, 5, 8] fun K hK => ?_
  refine st rfl rfl (e_boxA rfl) ?_
  refine st rfl rfl (e_boxA rfl) ?_
  refine st rfl rfl (e_alloc t124 rfl) ?_
  refine st rfl rfl (e_assign rfl) ?_
  refine stEnd (hK _ [(2, _), (3, _), (4, _), (5, _), (8, _)] _ _ rfl ?_)
  clear hK K
  refine W.sR [2, 3, 4, 5, 8, 10] fun K hK => ?_
  refine st rfl rfl (e_build rfl rfl (bld124_ )) ?_
  refine st rfl rfl (e_alloc t124 rfl) ?_
  refine stN rfl (e_storeA t124 rfl rfl (by repeat (first | exact look_same | assumption | refine look_ne (by omega) ?_ | refine look_keep (by assumption) (by omega) (by simp; try omega) ?_)) rfl rfl rfl (by decide)) ?_
  refine stEnd (hK _ [(2, _), (3, _), (4, _), (5, _), (8, _), (10, _)] _ _ rfl ?_)
  clear hK K
  refine W.seq ?_
  refine W.sR [2, 3, 4, 5, 8, 10, 13] fun K hK => ?_
  refine st rfl rfl (e_move rfl) ?_
  refine stEnd (hK _ [(2, _), (3, _), (4, _), (5, _), (8, _), (10, _), (13, _)] _ _ rfl ?_)
  clear hK K
  refine W.block ?_
  refine W.ord [13, 2, 3, 4, 5, 8, 10] (ts' := [(13, _)] ++ [(2, _), (3, _), (4, _), (5, _), (8, _), (10, _)]) rfl ?_
  refine W.loopC [(13, _)] [n + 1 + 1 + 1] (fun κ V G μ => ∃ i : Nat, V = [(13, .int .i64 (i : Nat))] ∧ κ = 4 - i ∧ (i ≤ 4) ∧ (G (n + 1 + 1 + 1) = some (.cells false (flat (corN c p q d e i))))) _ ⟨0, rfl, rfl, (by first | omega | assumption | rfl | simp_all), (by rw [corN_zero]; exact look_same)⟩ fun κ V G μ hinv hμ hkeep hfr => ?_
  obtain ⟨i, rfl, rfl, hi, hG⟩ := hinv
  refine W.sR [2, 3, 4, 5, 8, 10, 13, 14] fun K hK => ?_
  refine st rfl rfl (e_lss rfl rfl) ?_
  refine stB (fun hb1 => ?_) (fun hb1 => ?_)
  ·
    try simp only [decide_eq_true_eq, decide_eq_false_iff_not, Bool.not_eq_true', Bool.not_eq_false', Bool.not_eq_true, Bool.not_eq_false] at hb1
    refine stEnd (hK _ [(2, _), (3, _), (4, _), (5, _), (8, _), (10, _), (13, _), (14, _)] _ _ rfl ?_)
    clear hK K
    refine W.seq ?_
    refine W.condT rfl ?_
    refine W.skip ?_
    refine thenN ?_
    refine W.seq ?_
    refine W.block ?_
    refine W.sR [2, 3, 4, 5, 8, 10, 11, 13] fun K hK => ?_
    refine st rfl rfl (e_move rfl) ?_
    refine st rfl rfl (e_assign rfl) ?_
    refine stEnd (hK _ [(2, _), (3, _), (4, _), (5, _), (8, _), (10, _), (11, _), (13, _)] _ _ rfl ?_)
    clear hK K
    refine W.sR [2, 3, 4, 5, 8, 10, 11, 13] fun K hK => ?_
    refine st rfl rfl (e_move rfl) ?_
    refine st rfl rfl (e_sliceAHi 2 t46 t3 rfl rfl (by repeat (first | exact look_same | assumption | refine look_ne (by omega) ?_ | refine look_keep (by assumption) (by omega) (by simp; try omega) ?_)) (by first | (simp; done) | (simp only [tri, List.length_cons, List.length_nil]; omega)) rfl (by decide)) ?_
    refine st rfl rfl (e_arrayAt t62 rfl (by first | decide | omega)) ?_
    refine st rfl rfl (e_loadP t62 rfl rfl (by repeat (first | exact look_same | assumption | refine look_ne (by omega) ?_ | refine look_keep (by assumption) (by omega) (by simp; try omega) ?_)) (show _ ∧ _ = tri c from ⟨by simp, rfl⟩)) ?_
    refine st rfl rfl (e_idxAK _ t124 t62 rfl rfl rfl (by omega)) ?_
    refine stN rfl (e_storeP t62 rfl rfl (by repeat (first | exact look_same | assumption | refine look_ne (by omega) ?_ | refine look_keep (by assumption) (by omega) (by simp; try omega) ?_)) rfl (by rw [flat_length, corN_len]; omega)) ?_
    rw [flat_set (c := c) (k := i) (by rw [corN_len]; omega)]
    refine stEnd (hK _ [(2, _), (3, _), (4, _), (5, _), (8, _), (10, _), (11, _), (13, _)] _ _ rfl ?_)
    clear hK K
    refine W.seq ?_
    refine W.sR [2, 3, 4, 5, 8, 10, 11, 13, 23] fun K hK => ?_
    refine st rfl rfl (e_move rfl) ?_
    refine st rfl rfl (e_bin rfl rfl (and_1 (by omega))) ?_
    refine st rfl rfl (e_eql rfl rfl) ?_
    refine stB (fun h1 => ?_) (fun h1 => ?_)
    ·
      try simp only [decide_eq_true_eq, decide_eq_false_iff_not, Bool.not_eq_true', Bool.not_eq_false', Bool.not_eq_true, Bool.not_eq_false] at h1
      refine stEnd (hK _ [(2, _), (3, _), (4, _), (5, _), (8, _), (10, _), (11, _), (13, _), (23, _)] _ _ rfl ?_)
      clear hK K
      refine W.condT rfl ?_
      refine W.rD [2, 3, 4, 5, 8, 10, 11, 13] [0, 0, 1, 7, 15, 0, 32, 127, 1, 511, 1023] (by kernel_rfl) (by kernel_rfl) fun K hK => ?_
      refine dP rfl rfl rfl (e_move rfl) ?_
      refine dP rfl rfl rfl (e_move rfl) ?_
      refine dP rfl rfl rfl (e_idxAK _ t124 t62 rfl rfl rfl (by omega)) ?_
      refine dP rfl rfl rfl (e_idxAK _ t62 t3 rfl rfl rfl (by omega)) ?_
      refine dL rfl rfl rfl (by omega) (accB_ok rfl) (e_load1 t3 rfl rfl (by repeat (first | exact look_same | assumption | refine look_ne (by omega) ?_ | refine look_keep (by assumption) (by omega) (by simp; try omega) ?_)) (flat_putget (by rw [corN_len]; omega) hp)) ?_
      refine dP rfl rfl rfl (e_idxAK (3) t46 t3 rfl rfl (by first | rfl | omega) (by first | omega | decide)) ?_
      refine dL rfl rfl rfl (by omega) (accB_ok rfl) (e_load1 t3 rfl rfl (by repeat (first | exact look_same | assumption | refine look_ne (by omega) ?_ | refine look_keep (by assumption) (by omega) (by simp; try omega) ?_)) (by first | rfl | exact tri_getL (by omega))) ?_
      refine dP rfl rfl rfl (e_addW rfl rfl) ?_
      refine dP rfl rfl rfl (e_idxAK _ t124 t62 rfl rfl rfl (by omega)) ?_
      refine dP rfl rfl rfl (e_idxAK _ t62 t3 rfl rfl rfl (by omega)) ?_
      refine dSt rfl rfl (e_store1 t3 rfl rfl rfl (by repeat (first | exact look_same | assumption | refine look_ne (by omega) ?_ | refine look_keep (by assumption) (by omega) (by simp; try omega) ?_ | refine look_hide (by omega) (by first | exact List.not_mem_nil | (simp [hidden, Nat.testBit]; done) | (simp [hidden, Nat.testBit]; omega)) ?_)) (by rw [flat_length, List.length_set, corN_len]; omega)) (by omega) (by first | exact List.not_mem_nil | (simp [hidden, Nat.testBit]; done) | (simp [hidden, Nat.testBit]; omega)) (accB_ok rfl) ?_
      rw [flat_put (by rw [corN_len]; omega) hp]
      refine dEnd (hK _ [(2, _), (3, _), (4, _), (5, _), (8, _), (10, _), (11, _), (13, _)] _ _ rfl ?_)
      clear hK K
      refine thenN ?_
      refine W.sR [2, 3, 4, 5, 8, 10, 11, 13, 36] fun K hK => ?_
      refine st rfl rfl (e_move rfl) ?_
      refine st rfl rfl (e_bin rfl rfl (and_2 (by omega))) ?_
      refine st rfl rfl (e_eql rfl rfl) ?_
      refine stB (fun h2 => ?_) (fun h2 => ?_)
      ·
        try simp only [decide_eq_true_eq, decide_eq_false_iff_not, Bool.not_eq_true', Bool.not_eq_false', Bool.not_eq_true, Bool.not_eq_false] at h2
        refine stEnd (hK _ [(2, _), (3, _), (4, _), (5, _), (8, _), (10, _), (11, _), (13, _), (36, _)] _ _ rfl ?_)
        clear hK K
        refine W.condT rfl ?_
        refine W.rD [2, 3, 4, 5, 8, 10, 13] [0, 0, 1, 7, 15, 0, 32, 127, 1, 511, 1023] (by kernel_rfl) (by kernel_rfl) fun K hK => ?_
        refine dP rfl rfl rfl (e_move rfl) ?_
        refine dP rfl rfl rfl (e_move rfl) ?_
        refine dP rfl rfl rfl (e_idxAK _ t124 t62 rfl rfl rfl (by omega)) ?_
        refine dP rfl rfl rfl (e_idxAK _ t62 t3 rfl rfl rfl (by omega)) ?_
        refine dL rfl rfl rfl (by omega) (accB_ok rfl) (e_load1 t3 rfl rfl (by repeat (first | exact look_same | assumption | refine look_ne (by omega) ?_ | refine look_keep (by assumption) (by omega) (by simp; try omega) ?_)) (flat_putget (by rw [corN_len]; omega) hq)) ?_
        refine dP rfl rfl rfl (e_idxAK (4) t46 t3 rfl rfl (by first | rfl | omega) (by first | omega | decide)) ?_
        refine dL rfl rfl rfl (by omega) (accB_ok rfl) (e_load1 t3 rfl rfl (by repeat (first | exact look_same | assumption | refine look_ne (by omega) ?_ | refine look_keep (by assumption) (by omega) (by simp; try omega) ?_)) (by first | rfl | exact tri_getL (by omega))) ?_
        refine dP rfl rfl rfl (e_addW rfl rfl) ?_
        refine dP rfl rfl rfl (e_idxAK _ t124 t62 rfl rfl rfl (by omega)) ?_
        refine dP rfl rfl rfl (e_idxAK _ t62 t3 rfl rfl rfl (by omega)) ?_
        refine dSt rfl rfl (e_store1 t3 rfl rfl rfl (by repeat (first | exact look_same | assumption | refine look_ne (by omega) ?_ | refine look_keep (by assumption) (by omega) (by simp; try omega) ?_ | refine look_hide (by omega) (by first | exact List.not_mem_nil | (simp [hidden, Nat.testBit]; done) | (simp [hidden, Nat.testBit]; omega)) ?_)) (by rw [flat_length, List.length_set, corN_len]; omega)) (by omega) (by first | exact List.not_mem_nil | (simp [hidden, Nat.testBit]; done) | (simp [hidden, Nat.testBit]; omega)) (accB_ok rfl) ?_
        rw [flat_put (by rw [corN_len]; omega) hq]
        refine dEnd (hK _ [(2, _), (3, _), (4, _), (5, _), (8, _), (10, _), (13, _)] _ _ rfl ?_)
        clear hK K
        refine blockN ?_
        refine thenN ?_
        refine W.rR [13, 2, 3, 4, 5, 8, 10] fun K hK => ?_
        refine st rfl rfl (e_add rfl rfl (inB _ (by omega))) ?_
        refine st rfl rfl (e_move rfl) ?_
        refine stEnd (hK _ [(13, _), (2, _), (3, _), (4, _), (5, _), (8, _), (10, _)] _ _ rfl ?_)
        clear hK K
        exact roundN (V' := [(13, _)]) [13, 2, 3, 4, 5, 8, 10] rfl (by omega) (by repeat (first | exact Keeps.refl _ _ _ | assumption | refine Keeps.trans ?_ (by assumption) (by omega) (by simp; try omega) | refine Keeps.set ?_ (by first | exact Or.inl (by omega) | (simp; done) | (simp; omega)) | refine Keeps.del ?_ (by first | exact Or.inl (by omega) | (simp; done) | (simp; omega)) | refine Keeps.delO2 ?_ (by omega))) _ (by omega) ⟨i + 1, rfl, rfl, (by first | omega | assumption | simp_all), (look_same.trans (congrArg some (congrArg (Blk.cells false) (congrArg flat (by rw [← corN_succ (show i < 4 by omega), ← cor_TT h1 h2])))))⟩
      ·
        try simp only [decide_eq_true_eq, decide_eq_false_iff_not, Bool.not_eq_true', Bool.not_eq_false', Bool.not_eq_true, Bool.not_eq_false] at h2
        refine stEnd (hK _ [(2, _), (3, _), (4, _), (5, _), (8, _), (10, _), (11, _), (13, _), (36, _)] _ _ rfl ?_)
        clear hK K
        refine W.condF rfl ?_
        refine W.skip ?_
        refine blockN ?_
        refine thenN ?_
        refine W.rR [13, 2, 3, 4, 5, 8, 10] fun K hK => ?_
        refine st rfl rfl (e_add rfl rfl (inB _ (by omega))) ?_
        refine st rfl rfl (e_move rfl) ?_
        refine stEnd (hK _ [(13, _), (2, _), (3, _), (4, _), (5, _), (8, _), (10, _)] _ _ rfl ?_)
        clear hK K
        exact roundN (V' := [(13, _)]) [13, 2, 3, 4, 5, 8, 10] rfl (by omega) (by repeat (first | exact Keeps.refl _ _ _ | assumption | refine Keeps.trans ?_ (by assumption) (by omega) (by simp; try omega) | refine Keeps.set ?_ (by first | exact Or.inl (by omega) | (simp; done) | (simp; omega)) | refine Keeps.del ?_ (by first | exact Or.inl (by omega) | (simp; done) | (simp; omega)) | refine Keeps.delO2 ?_ (by omega))) _ (by omega) ⟨i + 1, rfl, rfl, (by first | omega | assumption | simp_all), (look_same.trans (congrArg some (congrArg (Blk.cells false) (congrArg flat (by rw [← corN_succ (show i < 4 by omega), ← cor_TF h1 h2])))))⟩
    ·
      try simp only [decide_eq_true_eq, decide_eq_false_iff_not, Bool.not_eq_true', Bool.not_eq_false', Bool.not_eq_true, Bool.not_eq_false] at h1
      refine stEnd (hK _ [(2, _), (3, _), (4, _), (5, _), (8, _), (10, _), (11, _), (13, _), (23, _)] _ _ rfl ?_)
      clear hK K
      refine W.condF rfl ?_
      refine W.skip ?_
      refine thenN ?_
      refine W.sR [2, 3, 4, 5, 8, 10, 11, 13, 36] fun K hK => ?_
      refine st rfl rfl (e_move rfl) ?_
      refine st rfl rfl (e_bin rfl rfl (and_2 (by omega))) ?_
      refine st rfl rfl (e_eql rfl rfl) ?_
      refine stB (fun h2 => ?_) (fun h2 => ?_)
      ·
        try simp only [decide_eq_true_eq, decide_eq_false_iff_not, Bool.not_eq_true', Bool.not_eq_false', Bool.not_eq_true, Bool.not_eq_false] at h2
        refine stEnd (hK _ [(2, _), (3, _), (4, _), (5, _), (8, _), (10, _), (11, _), (13, _), (36, _)] _ _ rfl ?_)
        clear hK K
        refine W.condT rfl ?_
        refine W.rD [2, 3, 4, 5, 8, 10, 13] [0, 0, 1, 7, 15, 0, 32, 127, 1, 511, 1023] (by kernel_rfl) (by kernel_rfl) fun K hK => ?_
        refine dP rfl rfl rfl (e_move rfl) ?_
        refine dP rfl rfl rfl (e_move rfl) ?_
        refine dP rfl rfl rfl (e_idxAK _ t124 t62 rfl rfl rfl (by omega)) ?_
        refine dP rfl rfl rfl (e_idxAK _ t62 t3 rfl rfl rfl (by omega)) ?_
        refine dL rfl rfl rfl (by omega) (accB_ok rfl) (e_load1 t3 rfl rfl (by repeat (first | exact look_same | assumption | refine look_ne (by omega) ?_ | refine look_keep (by assumption) (by omega) (by simp; try omega) ?_)) (flat_putget (by rw [corN_len]; omega) hq)) ?_
        refine dP rfl rfl rfl (e_idxAK (4) t46 t3 rfl rfl (by first | rfl | omega) (by first | omega | decide)) ?_
        refine dL rfl rfl rfl (by omega) (accB_ok rfl) (e_load1 t3 rfl rfl (by repeat (first | exact look_same | assumption | refine look_ne (by omega) ?_ | refine look_keep (by assumption) (by omega) (by simp; try omega) ?_)) (by first | rfl | exact tri_getL (by omega))) ?_
        refine dP rfl rfl rfl (e_addW rfl rfl) ?_
        refine dP rfl rfl rfl (e_idxAK _ t124 t62 rfl rfl rfl (by omega)) ?_
        refine dP rfl rfl rfl (e_idxAK _ t62 t3 rfl rfl rfl (by omega)) ?_
        refine dSt rfl rfl (e_store1 t3 rfl rfl rfl (by repeat (first | exact look_same | assumption | refine look_ne (by omega) ?_ | refine look_keep (by assumption) (by omega) (by simp; try omega) ?_ | refine look_hide (by omega) (by first | exact List.not_mem_nil | (simp [hidden, Nat.testBit]; done) | (simp [hidden, Nat.testBit]; omega)) ?_)) (by rw [flat_length, List.length_set, corN_len]; omega)) (by omega) (by first | exact List.not_mem_nil | (simp [hidden, Nat.testBit]; done) | (simp [hidden, Nat.testBit]; omega)) (accB_ok rfl) ?_
        rw [flat_put (by rw [corN_len]; omega) hq]
        refine dEnd (hK _ [(2, _), (3, _), (4, _), (5, _), (8, _), (10, _), (13, _)] _ _ rfl ?_)
        clear hK K
        refine blockN ?_
        refine thenN ?_
        refine W.rR [13, 2, 3, 4, 5, 8, 10] fun K hK => ?_
        refine st rfl rfl (e_add rfl rfl (inB _ (by omega))) ?_
        refine st rfl rfl (e_move rfl) ?_
        refine stEnd (hK _ [(13, _), (2, _), (3, _), (4, _), (5, _), (8, _), (10, _)] _ _ rfl ?_)
        clear hK K
        exact roundN (V' := [(13, _)]) [13, 2, 3, 4, 5, 8, 10] rfl (by omega) (by repeat (first | exact Keeps.refl _ _ _ | assumption | refine Keeps.trans ?_ (by assumption) (by omega) (by simp; try omega) | refine Keeps.set ?_ (by first | exact Or.inl (by omega) | (simp; done) | (simp; omega)) | refine Keeps.del ?_ (by first | exact Or.inl (by omega) | (simp; done) | (simp; omega)) | refine Keeps.delO2 ?_ (by omega))) _ (by omega) ⟨i + 1, rfl, rfl, (by first | omega | assumption | simp_all), (look_same.trans (congrArg some (congrArg (Blk.cells false) (congrArg flat (by rw [← corN_succ (show i < 4 by omega), ← cor_FT h1 h2])))))⟩
      ·
        try simp only [decide_eq_true_eq, decide_eq_false_iff_not, Bool.not_eq_true', Bool.not_eq_false', Bool.not_eq_true, Bool.not_eq_false] at h2
        refine stEnd (hK _ [(2, _), (3, _), (4, _), (5, _), (8, _), (10, _), (11, _), (13, _), (36, _)] _ _ rfl ?_)
        clear hK K
        refine W.condF rfl ?_
        refine W.skip ?_
        refine blockN ?_
        refine thenN ?_
        refine W.rR [13, 2, 3, 4, 5, 8, 10] fun K hK => ?_
        refine st rfl rfl (e_add rfl rfl (inB _ (by omega))) ?_
        refine st rfl rfl (e_move rfl) ?_
        refine stEnd (hK _ [(13, _), (2, _), (3, _), (4, _), (5, _), (8, _), (10, _)] _ _ rfl ?_)
        clear hK K
        exact roundN (V' := [(13, _)]) [13, 2, 3, 4, 5, 8, 10] rfl (by omega) (by repeat (first | exact Keeps.refl _ _ _ | assumption | refine Keeps.trans ?_ (by assumption) (by omega) (by simp; try omega) | refine Keeps.set ?_ (by first | exact Or.inl (by omega) | (simp; done) | (simp; omega)) | refine Keeps.del ?_ (by first | exact Or.inl (by omega) | (simp; done) | (simp; omega)) | refine Keeps.delO2 ?_ (by omega))) _ (by omega) ⟨i + 1, rfl, rfl, (by first | omega | assumption | simp_all), (look_same.trans (congrArg some (congrArg (Blk.cells false) (congrArg flat (by rw [← corN_succ (show i < 4 by omega), ← cor_FF h1 h2])))))⟩
  ·
    try simp only [decide_eq_true_eq, decide_eq_false_iff_not, Bool.not_eq_true', Bool.not_eq_false', Bool.not_eq_true, Bool.not_eq_false] at hb1
    refine stEnd (hK _ [(2, _), (3, _), (4, _), (5, _), (8, _), (10, _), (13, _), (14, _)] _ _ rfl ?_)
    clear hK K
    refine W.seq ?_
    refine W.condF rfl ?_
    refine W.exit ?_
    refine thenE ?_
    refine thenE ?_
    refine blockX ?_
    refine thenN ?_
    obtain rfl : i = 4 := by omega
    refine W.sD [8, 9] [0, 0, 2, 6, 14, 30, 62, 126, 254, 510, 1022, 1022, 3070, 8190, 16382, 32766, 65534, 65534, 196606, 524286, 1048574, 1048575, 4194303] (by kernel_rfl) (by kernel_rfl) fun K hK => ?_
    refine dL rfl rfl rfl (by omega) (accB_ok rfl) (e_loadA t124 rfl rfl (by repeat (first | exact look_same | assumption | refine look_ne (by omega) ?_ | refine look_keep (by assumption) (by omega) (by simp; try omega) ?_)) rfl (by rw [flat_length, corN_len])) ?_
    refine dP rfl rfl rfl (e_idxAK (3) t46 t3 rfl rfl (by first | rfl | omega) (by first | omega | decide)) ?_
    refine dL rfl rfl rfl (by omega) (accB_ok rfl) (e_load1 t3 rfl rfl (by repeat (first | exact look_same | assumption | refine look_ne (by omega) ?_ | refine look_keep (by assumption) (by omega) (by simp; try omega) ?_)) (by first | rfl | exact tri_getL (by omega))) ?_
    refine dC rfl rfl rfl rfl (impl_within_s _ _ _ _ _ ) (by repeat (first | exact trivial | refine And.intro (Or.inl rfl) ?_ | refine And.intro (Or.inr trivial) ?_ | refine And.intro (Or.inr (And.intro (Or.inl (by omega)) (by first | (simp; done) | (simp; omega)))) ?_ | refine And.intro (Or.inr (And.intro (Or.inr (by omega)) (by first | (simp; done) | (simp; omega)))) ?_ | refine And.intro (Or.inr (by simp [compat]; try omega)) ?_)) ?_
    refine dP rfl rfl rfl (e_move rfl) ?_
    refine dB (fun hw1 => ?_) (fun hw1 => ?_)
    ·
      try simp only [decide_eq_true_eq, decide_eq_false_iff_not, Bool.not_eq_true', Bool.not_eq_false', Bool.not_eq_true, Bool.not_eq_false] at hw1
      refine dP rfl rfl rfl (e_idxAK (4) t46 t3 rfl rfl (by first | rfl | omega) (by first | omega | decide)) ?_
      refine dL rfl rfl rfl (by omega) (accB_ok rfl) (e_load1 t3 rfl rfl (by repeat (first | exact look_same | assumption | refine look_ne (by omega) ?_ | refine look_keep (by assumption) (by omega) (by simp; try omega) ?_)) (by first | rfl | exact tri_getL (by omega))) ?_
      refine dC rfl rfl rfl rfl (impl_within_s _ _ _ _ _ ) (by repeat (first | exact trivial | refine And.intro (Or.inl rfl) ?_ | refine And.intro (Or.inr trivial) ?_ | refine And.intro (Or.inr (And.intro (Or.inl (by omega)) (by first | (simp; done) | (simp; omega)))) ?_ | refine And.intro (Or.inr (And.intro (Or.inr (by omega)) (by first | (simp; done) | (simp; omega)))) ?_ | refine And.intro (Or.inr (by simp [compat]; try omega)) ?_)) ?_
      refine dP rfl rfl rfl (e_pickT rfl rfl) ?_
      refine dP rfl rfl rfl (e_move rfl) ?_
      refine dB (fun hw2 => ?_) (fun hw2 => ?_)
      ·
        try simp only [decide_eq_true_eq, decide_eq_false_iff_not, Bool.not_eq_true', Bool.not_eq_false', Bool.not_eq_true, Bool.not_eq_false] at hw2
        refine dL rfl rfl rfl (by omega) (accB_ok rfl) (e_loadA t63 rfl rfl (by repeat (first | exact look_same | assumption | refine look_ne (by omega) ?_ | refine look_keep (by assumption) (by omega) (by simp; try omega) ?_)) rfl rfl) ?_
        refine dP rfl rfl rfl (e_idxAK (0) t124 t62 rfl rfl (by first | rfl | omega) (by first | omega | decide)) ?_
        refine dL rfl rfl rfl (by omega) (accB_ok rfl) (e_loadP t62 rfl rfl (by repeat (first | exact look_same | assumption | refine look_ne (by omega) ?_ | refine look_keep (by assumption) (by omega) (by simp; try omega) ?_)) (flat_at (k := 0) (by rw [corN_len]; omega))) ?_
        rw [corN_at (by omega), show cor c p q d e 0 = c from rfl]
        refine dC rfl rfl rfl rfl (impl_box_has_s _ _ _ c _ _ (by omega)) (by repeat (first | exact trivial | refine And.intro (Or.inl rfl) ?_ | refine And.intro (Or.inr trivial) ?_ | refine And.intro (Or.inr (And.intro (Or.inl (by omega)) (by first | (simp; done) | (simp; omega)))) ?_ | refine And.intro (Or.inr (And.intro (Or.inr (by omega)) (by first | (simp; done) | (simp; omega)))) ?_ | refine And.intro (Or.inr (by simp [compat]; try omega)) ?_)) ?_
        refine dP rfl rfl rfl (e_pickT rfl rfl) ?_
        refine dP rfl rfl rfl (e_move rfl) ?_
        refine dB (fun hw3 => ?_) (fun hw3 => ?_)
        ·
          try simp only [decide_eq_true_eq, decide_eq_false_iff_not, Bool.not_eq_true', Bool.not_eq_false', Bool.not_eq_true, Bool.not_eq_false] at hw3
          refine dL rfl rfl rfl (by omega) (accB_ok rfl) (e_loadA t63 rfl rfl (by repeat (first | exact look_same | assumption | refine look_ne (by omega) ?_ | refine look_keep (by assumption) (by omega) (by simp; try omega) ?_)) rfl rfl) ?_
          refine dP rfl rfl rfl (e_idxAK (3) t124 t62 rfl rfl (by first | rfl | omega) (by first | omega | decide)) ?_
          refine dL rfl rfl rfl (by omega) (accB_ok rfl) (e_loadP t62 rfl rfl (by repeat (first | exact look_same | assumption | refine look_ne (by omega) ?_ | refine look_keep (by assumption) (by omega) (by simp; try omega) ?_)) (flat_at (k := 3) (by rw [corN_len]; omega))) ?_
          rw [corN_at (by omega)]
          refine dC rfl rfl rfl rfl (impl_box_has_s _ _ _ (cor c p q d e 3) _ _ (by omega)) (by repeat (first | exact trivial | refine And.intro (Or.inl rfl) ?_ | refine And.intro (Or.inr trivial) ?_ | refine And.intro (Or.inr (And.intro (Or.inl (by omega)) (by first | (simp; done) | (simp; omega)))) ?_ | refine And.intro (Or.inr (And.intro (Or.inr (by omega)) (by first | (simp; done) | (simp; omega)))) ?_ | refine And.intro (Or.inr (by simp [compat]; try omega)) ?_)) ?_
          refine dP rfl rfl rfl (e_pickT rfl rfl) ?_
          refine dSt rfl rfl (e_storeA t124 rfl rfl (by repeat (first | exact look_same | assumption | refine look_ne (by omega) ?_ | refine look_keep (by assumption) (by omega) (by simp; try omega) ?_ | refine look_hide (by omega) (by first | exact List.not_mem_nil | (simp [hidden, Nat.testBit]; done) | (simp [hidden, Nat.testBit]; omega)) ?_)) rfl rfl rfl (by decide)) (by omega) (by first | exact List.not_mem_nil | (simp [hidden, Nat.testBit]; done) | (simp [hidden, Nat.testBit]; omega)) (accB_ok rfl) ?_
          refine dP rfl rfl rfl (e_assign rfl) ?_
          refine dEnd (hK _ [(8, _), (9, _)] _ _ rfl ?_)
          clear hK K
          refine W.ret ?_
          refine ⟨.inr rfl, Ends.v0 (by repeat (first | exact self_old | assumption | refine set_old ?_ (by omega) | refine keep_old (by assumption) ?_ (by omega) (by simp; try omega))) hfresh (by first | rfl | (simp [ltT, ltA, ltC, ltV]; try omega)) (res2 (resC t124 rfl rfl (by repeat (first | exact look_same | assumption | refine look_ne (by omega) ?_ | refine look_keep (by assumption) (by omega) (by simp; try omega) ?_)) rfl rfl) (resT rfl) rfl rfl) ?_⟩
          simp [rectB, *]
        ·
          try simp only [decide_eq_true_eq, decide_eq_false_iff_not, Bool.not_eq_true', Bool.not_eq_false', Bool.not_eq_true, Bool.not_eq_false] at hw3
          refine dS rfl rfl ?_
          refine dS rfl rfl ?_
          refine dS rfl rfl ?_
          refine dS rfl rfl ?_
          refine dP rfl rfl rfl (e_pickF rfl rfl) ?_
          refine dSt rfl rfl (e_storeA t124 rfl rfl (by repeat (first | exact look_same | assumption | refine look_ne (by omega) ?_ | refine look_keep (by assumption) (by omega) (by simp; try omega) ?_ | refine look_hide (by omega) (by first | exact List.not_mem_nil | (simp [hidden, Nat.testBit]; done) | (simp [hidden, Nat.testBit]; omega)) ?_)) rfl rfl rfl (by decide)) (by omega) (by first | exact List.not_mem_nil | (simp [hidden, Nat.testBit]; done) | (simp [hidden, Nat.testBit]; omega)) (accB_ok rfl) ?_
          refine dP rfl rfl rfl (e_assign rfl) ?_
          refine dEnd (hK _ [(8, _), (9, _)] _ _ rfl ?_)
          clear hK K
          refine W.ret ?_
          refine ⟨.inr rfl, Ends.v0 (by repeat (first | exact self_old | assumption | refine set_old ?_ (by omega) | refine keep_old (by assumption) ?_ (by omega) (by simp; try omega))) hfresh (by first | rfl | (simp [ltT, ltA, ltC, ltV]; try omega)) (res2 (resC t124 rfl rfl (by repeat (first | exact look_same | assumption | refine look_ne (by omega) ?_ | refine look_keep (by assumption) (by omega) (by simp; try omega) ?_)) rfl rfl) (resT rfl) rfl rfl) ?_⟩
          simp [rectB, *]
      ·
        try simp only [decide_eq_true_eq, decide_eq_false_iff_not, Bool.not_eq_true', Bool.not_eq_false', Bool.not_eq_true, Bool.not_eq_false] at hw2
        refine dS rfl rfl ?_
        refine dS rfl rfl ?_
        refine dS rfl rfl ?_
        refine dS rfl rfl ?_
        refine dP rfl rfl rfl (e_pickF rfl rfl) ?_
        refine dP rfl rfl rfl (e_move rfl) ?_
        refine dS rfl rfl ?_
        refine dS rfl rfl ?_
        refine dS rfl rfl ?_
        refine dS rfl rfl ?_
        refine dP rfl rfl rfl (e_pickF rfl rfl) ?_
        refine dSt rfl rfl (e_storeA t124 rfl rfl (by repeat (first | exact look_same | assumption | refine look_ne (by omega) ?_ | refine look_keep (by assumption) (by omega) (by simp; try omega) ?_ | refine look_hide (by omega) (by first | exact List.not_mem_nil | (simp [hidden, Nat.testBit]; done) | (simp [hidden, Nat.testBit]; omega)) ?_)) rfl rfl rfl (by decide)) (by omega) (by first | exact List.not_mem_nil | (simp [hidden, Nat.testBit]; done) | (simp [hidden, Nat.testBit]; omega)) (accB_ok rfl) ?_
        refine dP rfl rfl rfl (e_assign rfl) ?_
        refine dEnd (hK _ [(8, _), (9, _)] _ _ rfl ?_)
        clear hK K
        refine W.ret ?_
        refine ⟨.inr rfl, Ends.v0 (by repeat (first | exact self_old | assumption | refine set_old ?_ (by omega) | refine keep_old (by assumption) ?_ (by omega) (by simp; try omega))) hfresh (by first | rfl | (simp [ltT, ltA, ltC, ltV]; try omega)) (res2 (resC t124 rfl rfl (by repeat (first | exact look_same | assumption | refine look_ne (by omega) ?_ | refine look_keep (by assumption) (by omega) (by simp; try omega) ?_)) rfl rfl) (resT rfl) rfl rfl) ?_⟩
        simp [rectB, *]
    ·
      try simp only [decide_eq_true_eq, decide_eq_false_iff_not, Bool.not_eq_true', Bool.not_eq_false', Bool.not_eq_true, Bool.not_eq_false] at hw1
      refine dS rfl rfl ?_
      refine dS rfl rfl ?_
      refine dS rfl rfl ?_
      refine dP rfl rfl rfl (e_pickF rfl rfl) ?_
      refine dP rfl rfl rfl (e_move rfl) ?_
      refine dS rfl rfl ?_
      refine dS rfl rfl ?_
      refine dS rfl rfl ?_
      refine dS rfl rfl ?_
      refine dP rfl rfl rfl (e_pickF rfl rfl) ?_
      refine dP rfl rfl rfl (e_move rfl) ?_
      refine dS rfl rfl ?_
      refine dS rfl rfl ?_
      refine dS rfl rfl ?_
      refine dS rfl rfl ?_
      refine dP rfl rfl rfl (e_pickF rfl rfl) ?_
      refine dSt rfl rfl (e_storeA t124 rfl rfl (by repeat (first | exact look_same | assumption | refine look_ne (by omega) ?_ | refine look_keep (by assumption) (by omega) (by simp; try omega) ?_ | refine look_hide (by omega) (by first | exact List.not_mem_nil | (simp [hidden, Nat.testBit]; done) | (simp [hidden, Nat.testBit]; omega)) ?_)) rfl rfl rfl (by decide)) (by omega) (by first | exact List.not_mem_nil | (simp [hidden, Nat.testBit]; done) | (simp [hidden, Nat.testBit]; omega)) (accB_ok rfl) ?_
      refine dP rfl rfl rfl (e_assign rfl) ?_
      refine dEnd (hK _ [(8, _), (9, _)] _ _ rfl ?_)
      clear hK K
      refine W.ret ?_
      refine ⟨.inr rfl, Ends.v0 (by repeat (first | exact self_old | assumption | refine set_old ?_ (by omega) | refine keep_old (by assumption) ?_ (by omega) (by simp; try omega))) hfresh (by first | rfl | (simp [ltT, ltA, ltC, ltV]; try omega)) (res2 (resC t124 rfl rfl (by repeat (first | exact look_same | assumption | refine look_ne (by omega) ?_ | refine look_keep (by assumption) (by omega) (by simp; try omega) ?_)) rfl rfl) (resT rfl) rfl rfl) ?_⟩
      simp [rectB, *]
theorem impl_set_has_s (s : BitVec 64) (i : Nat) (H : Heap) (n : Nat) (hi : i < 64) : Fn Try.prog 68 [U s, .int .i64 (i : Nat)] H n (.bool (s.getLsbD i)) (H) (n) := by
  refine Fn.intro' Try.func68 rfl (by kernel_rfl) Try.ntmps68 (by simp) (by omega) fun hfresh => ?_
  show W _ _ _ ⟨[(0, _), (1, _)], _, _⟩ _
  refine W.sR [0, 1] fun K hK => ?_
  refine st rfl rfl (e_assign rfl) ?_
  refine stEnd (hK _ [(0, _), (1, _)] _ _ rfl ?_)
  clear hK K
  refine W.sR [4] fun K hK => ?_
  refine st rfl rfl (e_move rfl) ?_
  refine st rfl rfl (e_move rfl) ?_
  refine st rfl rfl (e_shrU (i) rfl rfl rfl) ?_
  refine st rfl rfl (e_andU rfl (ev_cU (k := 1) (by decide) rfl)) ?_
  refine st rfl rfl (e_eqlU rfl (ev_cU (k := 1) (by decide) rfl)) ?_
  refine st rfl rfl (e_assign rfl) ?_
  refine stEnd (hK _ [(4, _)] _ _ rfl ?_)
  clear hK K
  refine W.ret ?_
  refine ⟨.inr rfl, Ends.v0 (by repeat (first | exact self_old | assumption | refine set_old ?_ (by omega))) hfresh (by first | rfl | (simp [ltT, ltA, ltC, ltV]; try omega)) (res1 (resT rfl) rfl) ?_⟩
  exact congrArg Value.bool (has_bit hi)
theorem impl_box_switched_1_s (X Y Z : Int) (s : BitVec 64) (cs : List C) (c : C) (p q : Nat) (d e : Int) (j pa pb pc : Nat) (H : Heap) (n : Nat) (hpa : H pa = some (.cells false [U s])) (hpb : H pb = some (.cells false [.int .i64 X, .int .i64 Y, .int .i64 Z])) (hpc : H pc = some (.cells false (flat (corN c p q d e 4)))) (hr : Rep X Y Z s cs) (hR : Rect X Y Z c p q d e) (hj : j < 4) : Fn Try.prog 134 [.int .i64 (j : Nat), .pointer (some ⟨pa, 0, none⟩), .pointer (some ⟨pb, 0, none⟩), .pointer (some ⟨pc, 0, none⟩)] H n (.bool (cubB cs c p q d e j)) (H) (n) := by
  refine Fn.intro' Try.func134 rfl (by kernel_rfl) Try.ntmps134 (by simp) (by omega) fun hfresh => ?_
  have lt_hpa := lt_fresh hfresh hpa
  have lt_hpb := lt_fresh hfresh hpb
  have lt_hpc := lt_fresh hfresh hpc
  have hX := hr.valid.box
  have hin := hR.inn j hj
  have h64 := cellIx_lt64 hX hin
  show W _ _ _ ⟨[(0, _), (1, _), (2, _), (3, _)], _, _⟩ _
  refine W.sR [0, 1, 2, 3] fun K hK => ?_
  refine st rfl rfl (e_assign rfl) ?_
  refine stEnd (hK _ [(0, _), (1, _), (2, _), (3, _)] _ _ rfl ?_)
  clear hK K
  refine W.sD [5] [0, 0, 0, 4, 12, 30, 63, 127] (by kernel_rfl) (by kernel_rfl) fun K hK => ?_
  refine dL rfl rfl rfl (by omega) (accB_ok rfl) (e_load1 t73 rfl rfl (by repeat (first | exact look_same | assumption | refine look_ne (by omega) ?_)) rfl) ?_
  refine dL rfl rfl rfl (by omega) (accB_ok rfl) (e_loadA t63 rfl rfl (by repeat (first | exact look_same | assumption | refine look_ne (by omega) ?_)) rfl rfl) ?_
  refine dP rfl rfl rfl (e_move rfl) ?_
  refine dP rfl rfl rfl (e_idxAK _ t124 t62 rfl rfl rfl (by omega)) ?_
  refine dL rfl rfl rfl (by omega) (accB_ok rfl) (e_loadP t62 rfl rfl (by repeat (first | exact look_same | assumption | refine look_ne (by omega) ?_)) (flat_at (k := j) (by rw [corN_len]; omega))) ?_
  rw [corN_at hj]
  refine dC rfl rfl rfl rfl (impl_box_index_s _ _ _ (cor c p q d e j) _ _ (by assumption) (by assumption)) (by repeat (first | exact trivial | refine And.intro (Or.inl rfl) ?_ | refine And.intro (Or.inr trivial) ?_ | refine And.intro (Or.inr (And.intro (Or.inl (by omega)) (by first | (simp; done) | (simp; omega)))) ?_ | refine And.intro (Or.inr (And.intro (Or.inr (by omega)) (by first | (simp; done) | (simp; omega)))) ?_ | refine And.intro (Or.inr (by simp [compat]; try omega)) ?_)) ?_
  refine dC rfl rfl rfl rfl (impl_set_has_s _ _ _ _ (by omega)) (accB_ok rfl) ?_
  rw [hr.has hin]
  refine dP rfl rfl rfl (e_assign rfl) ?_
  refine dEnd (hK _ [(5, _)] _ _ rfl ?_)
  clear hK K
  refine W.ret ?_
  refine ⟨.inr rfl, Ends.v0 (by repeat (first | exact self_old | assumption | refine set_old ?_ (by omega))) hfresh (by first | rfl | (simp [ltT, ltA, ltC, ltV]; try omega)) (res1 (resT rfl) rfl) ?_⟩
  rfl
theorem impl_box_switched_s (X Y Z : Int) (s : BitVec 64) (cs : List C) (c : C) (p q : Nat) (d e : Int) (H : Heap) (n : Nat) (hr : Rep X Y Z s cs) (hp : p < 3) (hq : q < 3) (hpq : p ≠ q) : Fn Try.prog 73 [.agg #[.int .i64 X, .int .i64 Y, .int .i64 Z], U s, .int .i64 (p : Nat), .int .i64 (q : Nat), .agg #[.int .i64 c.1, .int .i64 c.2.1, .int .i64 c.2.2, .int .i64 d, .int .i64 e]] H n (.tuple #[U (if swB X Y Z cs c p q d e then swS Y Z s c p q d e 4 else 0#64), .bool (swB X Y Z cs c p q d e)]) (H) (n) := by
  refine Fn.intro' Try.func73 rfl (by kernel_rfl) Try.ntmps73 (by simp) (by omega) fun hfresh => ?_
  have hX := hr.valid.box
  show W _ _ _ ⟨[(0, _), (1, _), (2, _), (3, _), (4, _)], _, _⟩ _
  refine W.sR [2, 3, 5, 6, 9] fun K hK => ?_
  refine st rfl rfl (e_boxA rfl) ?_
  refine st rfl rfl (e_box1 rfl rfl) ?_
  refine st rfl rfl (e_boxA rfl) ?_
  refine st rfl rfl (e_assign rfl) ?_
  refine st rfl rfl (e_assign rfl) ?_
  refine stEnd (hK _ [(2, _), (3, _), (5, _), (6, _), (9, _)] _ _ rfl ?_)
  clear hK K
  refine W.sR [5, 6, 12, 13] fun K hK => ?_
  refine st rfl rfl (e_loadA t63 rfl rfl (by repeat (first | exact look_same | assumption | refine look_ne (by omega) ?_ | refine look_keep (by assumption) (by omega) (by simp; try omega) ?_)) rfl rfl) ?_
  refine st rfl rfl (e_loadA t46 rfl rfl (by repeat (first | exact look_same | assumption | refine look_ne (by omega) ?_ | refine look_keep (by assumption) (by omega) (by simp; try omega) ?_)) rfl rfl) ?_
  refine st rfl rfl (e_move rfl) ?_
  refine st rfl rfl (e_move rfl) ?_
  refine stC rfl rfl rfl (impl_box_corners_s _ _ _ c p q d e _ _ (by assumption) (by assumption) (by assumption)) ?_
  refine st rfl rfl (e_move rfl) ?_
  refine st rfl rfl (e_extract rfl rfl) ?_
  refine st rfl rfl (e_extract rfl rfl) ?_
  refine st rfl rfl (e_alloc t124 rfl) ?_
  refine stN rfl (e_storeA t124 rfl rfl (by repeat (first | exact look_same | assumption | refine look_ne (by omega) ?_ | refine look_keep (by assumption) (by omega) (by simp; try omega) ?_)) rfl rfl rfl (by decide)) ?_
  refine st rfl rfl (e_assign rfl) ?_
  refine stEnd (hK _ [(5, _), (6, _), (12, _), (13, _)] _ _ rfl ?_)
  clear hK K
  refine W.seq ?_
  refine W.sR [5, 6, 12, 26] fun K hK => ?_
  refine st rfl rfl (e_move rfl) ?_
  refine st rfl rfl (e_not rfl) ?_
  refine stB (fun hrb => ?_) (fun hrb => ?_)
  ·
    try simp only [decide_eq_true_eq, decide_eq_false_iff_not, Bool.not_eq_true', Bool.not_eq_false', Bool.not_eq_true, Bool.not_eq_false] at hrb
    refine stEnd (hK _ [(5, _), (6, _), (12, _), (26, _)] _ _ rfl ?_)
    clear hK K
    refine W.condT rfl ?_
    refine W.sR [10, 11] fun K hK => ?_
    refine st rfl rfl (e_assign rfl) ?_
    refine st rfl rfl (e_assign rfl) ?_
    refine stEnd (hK _ [(10, _), (11, _)] _ _ rfl ?_)
    clear hK K
    refine W.ret ?_
    refine thenR ?_
    refine ⟨.inr rfl, Ends.v0 (by repeat (first | exact self_old | assumption | refine set_old ?_ (by omega) | refine keep_old (by assumption) ?_ (by omega) (by simp; try omega))) hfresh (by first | rfl | (simp [ltT, ltA, ltC, ltV]; try omega)) (res2 (resT rfl) (resT rfl) rfl rfl) ?_⟩
    simp [swB, hrb]
  ·
    try simp only [decide_eq_true_eq, decide_eq_false_iff_not, Bool.not_eq_true', Bool.not_eq_false', Bool.not_eq_true, Bool.not_eq_false] at hrb
    have hR := rect_of hp hq hpq hX hrb
    refine stEnd (hK _ [(5, _), (6, _), (12, _), (26, _)] _ _ rfl ?_)
    clear hK K
    refine W.condF rfl ?_
    refine W.skip ?_
    refine thenN ?_
    refine W.sR [5, 6, 12, 14] fun K hK => ?_
    refine st rfl rfl (e_makeFunc rfl rfl) ?_
    refine st rfl rfl (e_assign rfl) ?_
    refine stEnd (hK _ [(5, _), (6, _), (12, _), (14, _)] _ _ rfl ?_)
    clear hK K
    refine W.seq ?_
    refine W.sR [5, 6, 12, 46] fun K hK => ?_
    refine st rfl rfl (e_move rfl) ?_
    refine stC rfl rfl rfl (impl_box_switched_1_s X Y Z s cs c p q d e 0 _ _ _ _ _ (by repeat (first | exact look_same | assumption | refine look_ne (by omega) ?_ | refine look_keep (by assumption) (by omega) (by simp; try omega) ?_)) (by repeat (first | exact look_same | assumption | refine look_ne (by omega) ?_ | refine look_keep (by assumption) (by omega) (by simp; try omega) ?_)) (by repeat (first | exact look_same | assumption | refine look_ne (by omega) ?_ | refine look_keep (by assumption) (by omega) (by simp; try omega) ?_)) hr hR (by omega)) ?_
    refine st rfl rfl (e_move rfl) ?_
    refine stC rfl rfl rfl (impl_box_switched_1_s X Y Z s cs c p q d e 3 _ _ _ _ _ (by repeat (first | exact look_same | assumption | refine look_ne (by omega) ?_ | refine look_keep (by assumption) (by omega) (by simp; try omega) ?_)) (by repeat (first | exact look_same | assumption | refine look_ne (by omega) ?_ | refine look_keep (by assumption) (by omega) (by simp; try omega) ?_)) (by repeat (first | exact look_same | assumption | refine look_ne (by omega) ?_ | refine look_keep (by assumption) (by omega) (by simp; try omega) ?_)) hr hR (by omega)) ?_
    refine st rfl rfl (e_neqB t4 rfl rfl) ?_
    refine st rfl rfl (e_move rfl) ?_
    refine stB (fun h1 => ?_) (fun h1 => ?_)
    ·
      try simp only [decide_eq_true_eq, decide_eq_false_iff_not, Bool.not_eq_true', Bool.not_eq_false', Bool.not_eq_true, Bool.not_eq_false] at h1
      refine stS rfl rfl ?_
      refine stS rfl rfl ?_
      refine stS rfl rfl ?_
      refine stS rfl rfl ?_
      refine stS rfl rfl ?_
      refine st rfl rfl (e_pickT rfl rfl) ?_
      refine st rfl rfl (e_move rfl) ?_
      refine stS rfl rfl ?_
      refine stS rfl rfl ?_
      refine stS rfl rfl ?_
      refine stS rfl rfl ?_
      refine stS rfl rfl ?_
      refine st rfl rfl (e_pickT rfl rfl) ?_
      refine stEnd (hK _ [(5, _), (6, _), (12, _), (46, _)] _ _ rfl ?_)
      clear hK K
      refine W.condT rfl ?_
      refine W.sR [10, 11] fun K hK => ?_
      refine st rfl rfl (e_assign rfl) ?_
      refine st rfl rfl (e_assign rfl) ?_
      refine stEnd (hK _ [(10, _), (11, _)] _ _ rfl ?_)
      clear hK K
      refine W.ret ?_
      refine thenR ?_
      refine ⟨.inr rfl, Ends.v0 (by repeat (first | exact self_old | assumption | refine set_old ?_ (by omega) | refine keep_old (by assumption) ?_ (by omega) (by simp; try omega))) hfresh (by first | rfl | (simp [ltT, ltA, ltC, ltV]; try omega)) (res2 (resT rfl) (resT rfl) rfl rfl) ?_⟩
      (simp only [swB, hrb, Bool.true_and]; generalize cubB cs c p q d e 0 = x0 at *; generalize cubB cs c p q d e 1 = x1 at *; generalize cubB cs c p q d e 2 = x2 at *; generalize cubB cs c p q d e 3 = x3 at *; cases x0 <;> cases x1 <;> cases x2 <;> cases x3 <;> simp_all)
    ·
      try simp only [decide_eq_true_eq, decide_eq_false_iff_not, Bool.not_eq_true', Bool.not_eq_false', Bool.not_eq_true, Bool.not_eq_false] at h1
      refine st rfl rfl (e_move rfl) ?_
      refine stC rfl rfl rfl (impl_box_switched_1_s X Y Z s cs c p q d e 1 _ _ _ _ _ (by repeat (first | exact look_same | assumption | refine look_ne (by omega) ?_ | refine look_keep (by assumption) (by omega) (by simp; try omega) ?_)) (by repeat (first | exact look_same | assumption | refine look_ne (by omega) ?_ | refine look_keep (by assumption) (by omega) (by simp; try omega) ?_)) (by repeat (first | exact look_same | assumption | refine look_ne (by omega) ?_ | refine look_keep (by assumption) (by omega) (by simp; try omega) ?_)) hr hR (by omega)) ?_
      refine st rfl rfl (e_move rfl) ?_
      refine stC rfl rfl rfl (impl_box_switched_1_s X Y Z s cs c p q d e 2 _ _ _ _ _ (by repeat (first | exact look_same | assumption | refine look_ne (by omega) ?_ | refine look_keep (by assumption) (by omega) (by simp; try omega) ?_)) (by repeat (first | exact look_same | assumption | refine look_ne (by omega) ?_ | refine look_keep (by assumption) (by omega) (by simp; try omega) ?_)) (by repeat (first | exact look_same | assumption | refine look_ne (by omega) ?_ | refine look_keep (by assumption) (by omega) (by simp; try omega) ?_)) hr hR (by omega)) ?_
      refine st rfl rfl (e_neqB t4 rfl rfl) ?_
      refine st rfl rfl (e_pickF rfl rfl) ?_
      refine st rfl rfl (e_move rfl) ?_
      refine stB (fun h2 => ?_) (fun h2 => ?_)
      ·
        try simp only [decide_eq_true_eq, decide_eq_false_iff_not, Bool.not_eq_true', Bool.not_eq_false', Bool.not_eq_true, Bool.not_eq_false] at h2
        refine stS rfl rfl ?_
        refine stS rfl rfl ?_
        refine stS rfl rfl ?_
        refine stS rfl rfl ?_
        refine stS rfl rfl ?_
        refine st rfl rfl (e_pickT rfl rfl) ?_
        refine stEnd (hK _ [(5, _), (6, _), (12, _), (46, _)] _ _ rfl ?_)
        clear hK K
        refine W.condT rfl ?_
        refine W.sR [10, 11] fun K hK => ?_
        refine st rfl rfl (e_assign rfl) ?_
        refine st rfl rfl (e_assign rfl) ?_
        refine stEnd (hK _ [(10, _), (11, _)] _ _ rfl ?_)
        clear hK K
        refine W.ret ?_
        refine thenR ?_
        refine ⟨.inr rfl, Ends.v0 (by repeat (first | exact self_old | assumption | refine set_old ?_ (by omega) | refine keep_old (by assumption) ?_ (by omega) (by simp; try omega))) hfresh (by first | rfl | (simp [ltT, ltA, ltC, ltV]; try omega)) (res2 (resT rfl) (resT rfl) rfl rfl) ?_⟩
        (simp only [swB, hrb, Bool.true_and]; generalize cubB cs c p q d e 0 = x0 at *; generalize cubB cs c p q d e 1 = x1 at *; generalize cubB cs c p q d e 2 = x2 at *; generalize cubB cs c p q d e 3 = x3 at *; cases x0 <;> cases x1 <;> cases x2 <;> cases x3 <;> simp_all)
      ·
        try simp only [decide_eq_true_eq, decide_eq_false_iff_not, Bool.not_eq_true', Bool.not_eq_false', Bool.not_eq_true, Bool.not_eq_false] at h2
        refine st rfl rfl (e_move rfl) ?_
        refine stC rfl rfl rfl (impl_box_switched_1_s X Y Z s cs c p q d e 0 _ _ _ _ _ (by repeat (first | exact look_same | assumption | refine look_ne (by omega) ?_ | refine look_keep (by assumption) (by omega) (by simp; try omega) ?_)) (by repeat (first | exact look_same | assumption | refine look_ne (by omega) ?_ | refine look_keep (by assumption) (by omega) (by simp; try omega) ?_)) (by repeat (first | exact look_same | assumption | refine look_ne (by omega) ?_ | refine look_keep (by assumption) (by omega) (by simp; try omega) ?_)) hr hR (by omega)) ?_
        refine st rfl rfl (e_move rfl) ?_
        refine stC rfl rfl rfl (impl_box_switched_1_s X Y Z s cs c p q d e 1 _ _ _ _ _ (by repeat (first | exact look_same | assumption | refine look_ne (by omega) ?_ | refine look_keep (by assumption) (by omega) (by simp; try omega) ?_)) (by repeat (first | exact look_same | assumption | refine look_ne (by omega) ?_ | refine look_keep (by assumption) (by omega) (by simp; try omega) ?_)) (by repeat (first | exact look_same | assumption | refine look_ne (by omega) ?_ | refine look_keep (by assumption) (by omega) (by simp; try omega) ?_)) hr hR (by omega)) ?_
        refine st rfl rfl (e_eqB t4 rfl rfl) ?_
        refine st rfl rfl (e_pickF rfl rfl) ?_
        refine stB (fun h3 => ?_) (fun h3 => ?_)
        ·
          try simp only [decide_eq_true_eq, decide_eq_false_iff_not, Bool.not_eq_true', Bool.not_eq_false', Bool.not_eq_true, Bool.not_eq_false] at h3
          refine stEnd (hK _ [(5, _), (6, _), (12, _), (46, _)] _ _ rfl ?_)
          clear hK K
          refine W.condT rfl ?_
          refine W.sR [10, 11] fun K hK => ?_
          refine st rfl rfl (e_assign rfl) ?_
          refine st rfl rfl (e_assign rfl) ?_
          refine stEnd (hK _ [(10, _), (11, _)] _ _ rfl ?_)
          clear hK K
          refine W.ret ?_
          refine thenR ?_
          refine ⟨.inr rfl, Ends.v0 (by repeat (first | exact self_old | assumption | refine set_old ?_ (by omega) | refine keep_old (by assumption) ?_ (by omega) (by simp; try omega))) hfresh (by first | rfl | (simp [ltT, ltA, ltC, ltV]; try omega)) (res2 (resT rfl) (resT rfl) rfl rfl) ?_⟩
          (simp only [swB, hrb, Bool.true_and]; generalize cubB cs c p q d e 0 = x0 at *; generalize cubB cs c p q d e 1 = x1 at *; generalize cubB cs c p q d e 2 = x2 at *; generalize cubB cs c p q d e 3 = x3 at *; cases x0 <;> cases x1 <;> cases x2 <;> cases x3 <;> simp_all)
        ·
          try simp only [decide_eq_true_eq, decide_eq_false_iff_not, Bool.not_eq_true', Bool.not_eq_false', Bool.not_eq_true, Bool.not_eq_false] at h3
          refine stEnd (hK _ [(5, _), (6, _), (12, _), (46, _)] _ _ rfl ?_)
          clear hK K
          refine W.condF rfl ?_
          refine W.skip ?_
          refine thenN ?_
          refine W.seq ?_
          refine W.sR [5, 6, 47, 48] fun K hK => ?_
          refine st rfl rfl (e_loadA t124 rfl rfl (by repeat (first | exact look_same | assumption | refine look_ne (by omega) ?_ | refine look_keep (by assumption) (by omega) (by simp; try omega) ?_)) rfl (by rw [flat_length, corN_len])) ?_
          refine st rfl rfl (e_move rfl) ?_
          refine stEnd (hK _ [(5, _), (6, _), (47, _), (48, _)] _ _ rfl ?_)
          clear hK K
          refine W.block ?_
          refine W.ord [48, 5, 6, 47] (ts' := [(48, _)] ++ [(5, _), (6, _), (47, _)]) rfl ?_
          refine W.loopC [(48, _)] [n + 1] (fun κ V G μ => ∃ i : Nat, V = [(48, .int .i64 (i : Nat))] ∧ κ = 4 - i ∧ (i ≤ 4) ∧ (G (n + 1) = some (.cells false [U (swS Y Z s c p q d e i)]))) _ ⟨0, rfl, rfl, (by first | omega | assumption | rfl | simp_all), (by repeat (first | exact look_same | assumption | refine look_ne (by omega) ?_ | refine look_keep (by assumption) (by omega) (by simp; try omega) ?_))⟩ fun κ V G μ hinv hμ hkeep hfr => ?_
          obtain ⟨i, rfl, rfl, hi, hG⟩ := hinv
          refine W.sR [5, 6, 47, 48, 49] fun K hK => ?_
          refine st rfl rfl (e_lss rfl rfl) ?_
          refine stB (fun hb5 => ?_) (fun hb5 => ?_)
          ·
            try simp only [decide_eq_true_eq, decide_eq_false_iff_not, Bool.not_eq_true', Bool.not_eq_false', Bool.not_eq_true, Bool.not_eq_false] at hb5
            refine stEnd (hK _ [(5, _), (6, _), (47, _), (48, _), (49, _)] _ _ rfl ?_)
            clear hK K
            refine W.seq ?_
            refine W.condT rfl ?_
            refine W.skip ?_
            refine thenN ?_
            refine W.seq ?_
            refine W.block ?_
            refine W.sR [5, 6, 16, 47, 48] fun K hK => ?_
            refine st rfl rfl (e_indexP t124 t62 rfl rfl rfl (by omega) (corN_drop (i := i) (by omega))) ?_
            refine st rfl rfl (e_alloc t62 rfl) ?_
            refine stN rfl (e_storeA t62 rfl rfl (by repeat (first | exact look_same | assumption | refine look_ne (by omega) ?_ | refine look_keep (by assumption) (by omega) (by simp; try omega) ?_)) rfl rfl rfl (by decide)) ?_
            refine stEnd (hK _ [(5, _), (6, _), (16, _), (47, _), (48, _)] _ _ rfl ?_)
            clear hK K
            have hin := hR.inn i (by omega)
            have h64 := cellIx_lt64 hX hin
            refine W.rD [5, 6, 47, 48] [0, 0, 0, 6, 14, 31, 63] (by kernel_rfl) (by kernel_rfl) fun K hK => ?_
            refine dL rfl rfl rfl (by omega) (accB_ok rfl) (e_load1 t73 rfl rfl (by repeat (first | exact look_same | assumption | refine look_ne (by omega) ?_ | refine look_keep (by assumption) (by omega) (by simp; try omega) ?_)) rfl) ?_
            refine dL rfl rfl rfl (by omega) (accB_ok rfl) (e_loadA t63 rfl rfl (by repeat (first | exact look_same | assumption | refine look_ne (by omega) ?_ | refine look_keep (by assumption) (by omega) (by simp; try omega) ?_)) rfl rfl) ?_
            refine dL rfl rfl rfl (by omega) (accB_ok rfl) (e_loadA t62 rfl rfl (by repeat (first | exact look_same | assumption | refine look_ne (by omega) ?_ | refine look_keep (by assumption) (by omega) (by simp; try omega) ?_)) rfl rfl) ?_
            refine dC rfl rfl rfl rfl (impl_box_index_s _ _ _ (cor c p q d e i) _ _ (by assumption) (by assumption)) (by repeat (first | exact trivial | refine And.intro (Or.inl rfl) ?_ | refine And.intro (Or.inr trivial) ?_ | refine And.intro (Or.inr (And.intro (Or.inl (by omega)) (by first | (simp; done) | (simp; omega)))) ?_ | refine And.intro (Or.inr (And.intro (Or.inr (by omega)) (by first | (simp; done) | (simp; omega)))) ?_ | refine And.intro (Or.inr (by simp [compat]; try omega)) ?_)) ?_
            refine dP rfl rfl rfl (e_shlU (_) (ev_cU (k := 1) (by decide) rfl) rfl rfl) ?_
            refine dP rfl rfl rfl (e_xorU rfl rfl) ?_
            refine dSt rfl rfl (e_store1 t73 rfl rfl rfl (by repeat (first | exact look_same | assumption | refine look_ne (by omega) ?_ | refine look_keep (by assumption) (by omega) (by simp; try omega) ?_ | refine look_hide (by omega) (by first | exact List.not_mem_nil | (simp [hidden, Nat.testBit]; done) | (simp [hidden, Nat.testBit]; omega)) ?_)) (by first | decide | (simp only [ints_length, flat_length]; omega) | (simp; done) | (simp; omega))) (by omega) (by first | exact List.not_mem_nil | (simp [hidden, Nat.testBit]; done) | (simp [hidden, Nat.testBit]; omega)) (accB_ok rfl) ?_
            refine dEnd (hK _ [(5, _), (6, _), (47, _), (48, _)] _ _ rfl ?_)
            clear hK K
            refine blockN ?_
            refine thenN ?_
            refine W.rR [48, 5, 6, 47] fun K hK => ?_
            refine st rfl rfl (e_add rfl rfl (inB _ (by omega))) ?_
            refine st rfl rfl (e_move rfl) ?_
            refine stEnd (hK _ [(48, _), (5, _), (6, _), (47, _)] _ _ rfl ?_)
            clear hK K
            exact roundN (V' := [(48, _)]) [48, 5, 6, 47] rfl (by omega) (by repeat (first | exact Keeps.refl _ _ _ | assumption | refine Keeps.trans ?_ (by assumption) (by omega) (by simp; try omega) | refine Keeps.set ?_ (by first | exact Or.inl (by omega) | (simp; done) | (simp; omega)) | refine Keeps.del ?_ (by first | exact Or.inl (by omega) | (simp; done) | (simp; omega)) | refine Keeps.delO2 ?_ (by omega))) _ (by omega) ⟨i + 1, rfl, rfl, (by first | omega | assumption | simp_all), look_same⟩
          ·
            try simp only [decide_eq_true_eq, decide_eq_false_iff_not, Bool.not_eq_true', Bool.not_eq_false', Bool.not_eq_true, Bool.not_eq_false] at hb5
            refine stEnd (hK _ [(5, _), (6, _), (47, _), (48, _), (49, _)] _ _ rfl ?_)
            clear hK K
            refine W.seq ?_
            refine W.condF rfl ?_
            refine W.exit ?_
            refine thenE ?_
            refine thenE ?_
            refine blockX ?_
            refine thenN ?_
            refine W.sR [10, 11] fun K hK => ?_
            refine st rfl rfl (e_load1 t73 rfl rfl (by repeat (first | exact look_same | assumption | refine look_ne (by omega) ?_ | refine look_keep (by assumption) (by omega) (by simp; try omega) ?_)) rfl) ?_
            refine st rfl rfl (e_assign rfl) ?_
            refine st rfl rfl (e_assign rfl) ?_
            refine stEnd (hK _ [(10, _), (11, _)] _ _ rfl ?_)
            clear hK K
            refine W.ret ?_
            refine ⟨.inr rfl, Ends.v0 (by repeat (first | exact self_old | assumption | refine set_old ?_ (by omega) | refine keep_old (by assumption) ?_ (by omega) (by simp; try omega))) hfresh (by first | rfl | (simp [ltT, ltA, ltC, ltV]; try omega)) (res2 (resT rfl) (resT rfl) rfl rfl) ?_⟩
            ((obtain rfl : i = 4 := by omega); simp only [swB, hrb, Bool.true_and]; generalize cubB cs c p q d e 0 = x0 at *; generalize cubB cs c p q d e 1 = x1 at *; generalize cubB cs c p q d e 2 = x2 at *; generalize cubB cs c p q d e 3 = x3 at *; cases x0 <;> cases x1 <;> cases x2 <;> cases x3 <;> simp_all)
theorem impl_Heap_switches_s (X Y Z : Int) (b : Nat) (ro : Bool) (cs : List C) (p q : Nat) (H : Heap) (n : Nat) (hb : H b = some (.cells ro (flat cs))) (hlen : cs.length ≤ 1048576) (hv : Valid X Y Z cs) (hp : p < 3) (hq : q < 3) (hpq : p ≠ q) : Fn Try.prog 51 [.agg #[.int .i64 X, .int .i64 Y, .int .i64 Z, .slice (some ⟨b, 0, none⟩) cs.length 3], .int .i64 (p : Nat), .int .i64 (q : Nat)] H n (.slice (some ⟨n, 0, none⟩) (swAll X Y Z cs p q).length 5) (H.set n (.cells false (ints (z5 (swAll X Y Z cs p q))))) (n + 1) := by
  refine Fn.intro' Try.func51 rfl (by kernel_rfl) Try.ntmps51 (by simp) (by omega) fun hfresh => ?_
  have lt_hb := lt_fresh hfresh hb
  have hX := hv.box
  have hvl := vol_le hX
  have hal := allC_length X Y Z
  show W _ _ _ ⟨[(0, _), (1, _), (2, _)], _, _⟩ _
  refine W.sR [1, 2, 3] fun K hK => ?_
  refine st rfl rfl (e_boxA rfl) ?_
  refine st rfl rfl (e_assign rfl) ?_
  refine stEnd (hK _ [(1, _), (2, _), (3, _)] _ _ rfl ?_)
  clear hK K
  refine W.sR [1, 2, 3, 7] fun K hK => ?_
  refine st rfl rfl (e_buildSlice rfl rfl (bsl32_0)) ?_
  refine st rfl rfl (e_assign rfl) ?_
  refine stEnd (hK _ [(1, _), (2, _), (3, _), (7, _)] _ _ rfl ?_)
  clear hK K
  refine W.seq ?_
  refine W.sR [1, 2, 3, 7, 18, 19] fun K hK => ?_
  refine st rfl rfl (e_loadA t28 rfl rfl (by repeat (first | exact look_same | assumption | refine look_ne (by omega) ?_ | refine look_del (by omega) ?_ | refine look_keep (by assumption) (by omega) (by simp; try omega) ?_)) rfl rfl) ?_
  refine stC rfl rfl rfl (impl_Heap_box_s _ _ _ _ _ _ ) ?_
  refine stC rfl rfl rfl (impl_box_size_s _ _ _ _ _ (by omega)) ?_
  refine st rfl rfl (e_move rfl) ?_
  refine stEnd (hK _ [(1, _), (2, _), (3, _), (7, _), (18, _), (19, _)] _ _ rfl ?_)
  clear hK K
  refine W.block ?_
  refine W.ord [7, 19, 1, 2, 3, 18] (ts' := [(7, _), (19, _)] ++ [(1, _), (2, _), (3, _), (18, _)]) rfl ?_
  refine W.loopC [(7, _), (19, _)] [n + 1] (fun κ V G0 μ0 => ∃ m r : Nat, V = [(7, .slice (some ⟨r, 0, none⟩) (swA X Y Z cs p q m).length 5), (19, .int .i64 (m : Nat))] ∧ κ = vol X Y Z - m ∧ (m ≤ vol X Y Z) ∧ ((r = n + 1 ∨ n + 1 + 1 ≤ r) ∧ r < μ0) ∧ (G0 r = some (.cells false (ints (z5 (swA X Y Z cs p q m)))))) _ ⟨0, n + 1, rfl, rfl, (by first | omega | assumption | rfl | simp_all), (by omega), (by repeat (first | exact look_same | assumption | refine look_ne (by omega) ?_ | refine look_keep (by assumption) (by omega) (by simp; try omega) ?_))⟩ fun κ V G0 μ0 hinv hμ0 hkeep0 hfr0 => ?_
  obtain ⟨m, r, rfl, rfl, hm, hr, hG⟩ := hinv
  refine W.sR [1, 2, 3, 7, 18, 19, 20] fun K hK => ?_
  refine st rfl rfl (e_lss rfl rfl) ?_
  refine stB (fun hb1 => ?_) (fun hb1 => ?_)
  ·
    try simp only [decide_eq_true_eq, decide_eq_false_iff_not, Bool.not_eq_true', Bool.not_eq_false', Bool.not_eq_true, Bool.not_eq_false] at hb1
    refine stEnd (hK _ [(1, _), (2, _), (3, _), (7, _), (18, _), (19, _), (20, _)] _ _ rfl ?_)
    clear hK K
    refine W.seq ?_
    refine W.condT rfl ?_
    refine W.skip ?_
    refine thenN ?_
    refine W.seq ?_
    refine W.block ?_
    refine W.sR [1, 2, 3, 7, 8, 18, 19] fun K hK => ?_
    refine st rfl rfl (e_move rfl) ?_
    refine st rfl rfl (e_assign rfl) ?_
    refine stEnd (hK _ [(1, _), (2, _), (3, _), (7, _), (8, _), (18, _), (19, _)] _ _ rfl ?_)
    clear hK K
    have hat := allC_at (X := X) (Y := Y) (Z := Z) (i := m) (by omega)
    refine W.sR [1, 2, 3, 7, 9, 18, 19] fun K hK => ?_
    refine st rfl rfl (e_loadA t28 rfl rfl (by repeat (first | exact look_same | assumption | refine look_ne (by omega) ?_ | refine look_del (by omega) ?_ | refine look_keep (by assumption) (by omega) (by simp; try omega) ?_)) rfl rfl) ?_
    refine stC rfl rfl rfl (impl_Heap_box_s _ _ _ _ _ _ ) ?_
    refine st rfl rfl (e_move rfl) ?_
    refine stC rfl rfl rfl (impl_box_cell_s _ _ _ _ _ _ (by assumption) (by omega)) ?_
    rw [← hat]
    refine st rfl rfl (e_alloc t62 rfl) ?_
    refine stN rfl (e_storeA t62 rfl rfl (by repeat (first | exact look_same | assumption | refine look_ne (by omega) ?_ | refine look_del (by omega) ?_ | refine look_keep (by assumption) (by omega) (by simp; try omega) ?_)) rfl rfl rfl (by decide)) ?_
    refine stEnd (hK _ [(1, _), (2, _), (3, _), (7, _), (9, _), (18, _), (19, _)] _ _ rfl ?_)
    clear hK K
    refine W.sR [1, 2, 3, 7, 9, 10, 18, 19] fun K hK => ?_
    refine st rfl rfl (e_assign rfl) ?_
    refine stEnd (hK _ [(1, _), (2, _), (3, _), (7, _), (9, _), (10, _), (18, _), (19, _)] _ _ rfl ?_)
    clear hK K
    refine W.block ?_
    refine W.ord [7, 10, 1, 2, 3, 9, 18, 19] (ts' := [(7, _), (10, _)] ++ [(1, _), (2, _), (3, _), (9, _), (18, _), (19, _)]) rfl ?_
    refine W.loopC [(7, _), (10, _)] [r] (fun κ V G1 μ1 => ∃ i r1 : Nat, V = [(7, .slice (some ⟨r1, 0, none⟩) (sws X Y Z cs p q m i 1).length 5), (10, .int .i64 (i : Nat))] ∧ κ = 4 - i ∧ (1 ≤ i ∧ i ≤ 4) ∧ ((r1 = r ∨ μ0 + 1 ≤ r1) ∧ r1 < μ1) ∧ (G1 r1 = some (.cells false (ints (z5 (sws X Y Z cs p q m i 1)))))) _ ⟨1, r, (by rw [sws_start]; rfl), rfl, (by first | omega | assumption | rfl | simp_all), (by omega), (by rw [sws_start]; exact (by repeat (first | exact look_same | assumption | refine look_ne (by omega) ?_ | refine look_keep (by assumption) (by omega) (by simp; try omega) ?_)))⟩ fun κ V G1 μ1 hinv hμ1 hkeep1 hfr1 => ?_
    obtain ⟨i, r1, rfl, rfl, hi, hr1, hG1⟩ := hinv
    refine W.seq ?_
    refine W.sR [1, 2, 3, 7, 9, 10, 18, 19, 27] fun K hK => ?_
    refine st rfl rfl (e_move rfl) ?_
    refine st rfl rfl (e_lss rfl rfl) ?_
    refine stB (fun hb2 => ?_) (fun hb2 => ?_)
    ·
      try simp only [decide_eq_true_eq, decide_eq_false_iff_not, Bool.not_eq_true', Bool.not_eq_false', Bool.not_eq_true, Bool.not_eq_false] at hb2
      refine stEnd (hK _ [(1, _), (2, _), (3, _), (7, _), (9, _), (10, _), (18, _), (19, _), (27, _)] _ _ rfl ?_)
      clear hK K
      refine W.condT rfl ?_
      refine W.skip ?_
      refine thenN ?_
      refine W.seq ?_
      refine W.block ?_
      refine W.sR [1, 2, 3, 7, 9, 10, 11, 18, 19] fun K hK => ?_
      refine st rfl rfl (e_assign rfl) ?_
      refine stEnd (hK _ [(1, _), (2, _), (3, _), (7, _), (9, _), (10, _), (11, _), (18, _), (19, _)] _ _ rfl ?_)
      clear hK K
      refine W.block ?_
      refine W.ord [7, 11, 1, 2, 3, 9, 10, 18, 19] (ts' := [(7, _), (11, _)] ++ [(1, _), (2, _), (3, _), (9, _), (10, _), (18, _), (19, _)]) rfl ?_
      refine W.loopC [(7, _), (11, _)] [r1] (fun κ V G2 μ2 => ∃ k r2 : Nat, V = [(7, .slice (some ⟨r2, 0, none⟩) (sws X Y Z cs p q m i k).length 5), (11, .int .i64 (k : Nat))] ∧ κ = 4 - k ∧ (1 ≤ k ∧ k ≤ 4) ∧ ((r2 = r1 ∨ μ1 ≤ r2) ∧ r2 < μ2) ∧ (G2 r2 = some (.cells false (ints (z5 (sws X Y Z cs p q m i k)))))) _ ⟨1, r1, rfl, rfl, (by first | omega | assumption | rfl | simp_all), (by omega), hG1⟩ fun κ V G2 μ2 hinv hμ2 hkeep2 hfr2 => ?_
      obtain ⟨k, r2, rfl, rfl, hk, hr2, hG2⟩ := hinv
      refine W.seq ?_
      refine W.sR [1, 2, 3, 7, 9, 10, 11, 18, 19, 31] fun K hK => ?_
      refine st rfl rfl (e_move rfl) ?_
      refine st rfl rfl (e_lss rfl rfl) ?_
      refine stB (fun hb3 => ?_) (fun hb3 => ?_)
      ·
        try simp only [decide_eq_true_eq, decide_eq_false_iff_not, Bool.not_eq_true', Bool.not_eq_false', Bool.not_eq_true, Bool.not_eq_false] at hb3
        refine stEnd (hK _ [(1, _), (2, _), (3, _), (7, _), (9, _), (10, _), (11, _), (18, _), (19, _), (31, _)] _ _ rfl ?_)
        clear hK K
        refine W.condT rfl ?_
        refine W.skip ?_
        refine thenN ?_
        refine W.seq ?_
        refine W.block ?_
        refine W.sR [1, 2, 3, 7, 9, 10, 11, 12, 18, 19] fun K hK => ?_
        refine st rfl rfl (e_idxAK (0) t62 t3 rfl rfl (by first | rfl | omega) (by first | omega | decide)) ?_
        refine st rfl rfl (e_load1 t3 rfl rfl (by repeat (first | exact look_same | assumption | refine look_ne (by omega) ?_ | refine look_del (by omega) ?_ | refine look_keep (by assumption) (by omega) (by simp; try omega) ?_)) (by first | rfl | exact tri_getL (by omega))) ?_
        refine st rfl rfl (e_idxAK (1) t62 t3 rfl rfl (by first | rfl | omega) (by first | omega | decide)) ?_
        refine st rfl rfl (e_load1 t3 rfl rfl (by repeat (first | exact look_same | assumption | refine look_ne (by omega) ?_ | refine look_del (by omega) ?_ | refine look_keep (by assumption) (by omega) (by simp; try omega) ?_)) (by first | rfl | exact tri_getL (by omega))) ?_
        refine st rfl rfl (e_idxAK (2) t62 t3 rfl rfl (by first | rfl | omega) (by first | omega | decide)) ?_
        refine st rfl rfl (e_load1 t3 rfl rfl (by repeat (first | exact look_same | assumption | refine look_ne (by omega) ?_ | refine look_del (by omega) ?_ | refine look_keep (by assumption) (by omega) (by simp; try omega) ?_)) (by first | rfl | exact tri_getL (by omega))) ?_
        refine st rfl rfl (e_move rfl) ?_
        refine st rfl rfl (e_move rfl) ?_
        refine st rfl rfl (e_build rfl rfl (bld46_0_1_2_3_4 _ _ _ _ _ rfl rfl rfl rfl rfl)) ?_
        refine st rfl rfl (e_alloc t46 rfl) ?_
        refine stN rfl (e_storeA t46 rfl rfl (by repeat (first | exact look_same | assumption | refine look_ne (by omega) ?_ | refine look_del (by omega) ?_ | refine look_keep (by assumption) (by omega) (by simp; try omega) ?_)) rfl rfl rfl (by decide)) ?_
        refine stEnd (hK _ [(1, _), (2, _), (3, _), (7, _), (9, _), (10, _), (11, _), (12, _), (18, _), (19, _)] _ _ rfl ?_)
        clear hK K
        refine W.sD [1, 2, 3, 7, 9, 10, 11, 12, 14, 18, 19] [0, 1, 0, 7, 0, 0, 0, 127, 255, 511, 511, 1023, 4095] (by kernel_rfl) (by kernel_rfl) fun K hK => ?_
        refine dL rfl rfl rfl (by omega) (accB_ok rfl) (e_loadA t28 rfl rfl (by repeat (first | exact look_same | assumption | refine look_ne (by omega) ?_ | refine look_del (by omega) ?_ | refine look_keep (by assumption) (by omega) (by simp; try omega) ?_)) rfl rfl) ?_
        refine dC rfl rfl rfl rfl (impl_Heap_box_s _ _ _ _ _ _ ) (accB_ok rfl) ?_
        refine dL rfl rfl rfl (by omega) (by repeat (first | exact trivial | refine And.intro (Or.inl rfl) ?_ | refine And.intro (Or.inr trivial) ?_ | refine And.intro (Or.inr (And.intro (Or.inl (by omega)) (by first | (simp; done) | (simp; omega)))) ?_ | refine And.intro (Or.inr (And.intro (Or.inr (by omega)) (by first | (simp; done) | (simp; omega)))) ?_ | refine And.intro (Or.inr (by simp [compat]; try omega)) ?_)) (e_loadA t28 rfl rfl (by repeat (first | exact look_same | assumption | refine look_ne (by omega) ?_ | refine look_del (by omega) ?_ | refine look_keep (by assumption) (by omega) (by simp; try omega) ?_)) rfl rfl) ?_
        refine dC rfl rfl rfl rfl (impl_Heap_cubes_s _ _ _ _ _ _ _ _ (by repeat (first | exact look_same | assumption | refine look_ne (by omega) ?_ | refine look_del (by omega) ?_ | refine look_keep (by assumption) (by omega) (by simp; try omega) ?_ | refine look_hide (by omega) (by first | exact List.not_mem_nil | (simp [hidden, Nat.testBit]; done) | (simp [hidden, Nat.testBit]; omega)) ?_)) (by omega) (by assumption)) (accB_ok rfl) ?_
        refine dP rfl rfl rfl (e_move rfl) ?_
        refine dP rfl rfl rfl (e_move rfl) ?_
        refine dL rfl rfl rfl (by omega) (by repeat (first | exact trivial | refine And.intro (Or.inl rfl) ?_ | refine And.intro (Or.inr trivial) ?_ | refine And.intro (Or.inr (And.intro (Or.inl (by omega)) (by first | (simp; done) | (simp; omega)))) ?_ | refine And.intro (Or.inr (And.intro (Or.inr (by omega)) (by first | (simp; done) | (simp; omega)))) ?_ | refine And.intro (Or.inr (by simp [compat]; try omega)) ?_)) (e_loadA t46 rfl rfl (by repeat (first | exact look_same | assumption | refine look_ne (by omega) ?_ | refine look_del (by omega) ?_ | refine look_keep (by assumption) (by omega) (by simp; try omega) ?_)) rfl rfl) ?_
        refine dC rfl rfl rfl rfl (impl_box_switched_s _ _ _ (mask Y Z cs) cs (at3 (allC X Y Z) m) p q (i : Int) (k : Int) _ _ (rep_mask hv) (by assumption) (by assumption) (by assumption)) (accB_ok rfl) ?_
        refine dP rfl rfl rfl (e_move rfl) ?_
        refine dP rfl rfl rfl (e_extract rfl rfl) ?_
        refine dP rfl rfl rfl (e_extract rfl rfl) ?_
        refine dP rfl rfl rfl (e_assign rfl) ?_
        refine dP rfl rfl rfl (e_assign rfl) ?_
        refine dEnd (hK _ [(1, _), (2, _), (3, _), (7, _), (9, _), (10, _), (11, _), (12, _), (14, _), (18, _), (19, _)] _ _ rfl ?_)
        clear hK K
        refine W.sR [1, 2, 3, 7, 9, 10, 11, 12, 18, 19, 54] fun K hK => ?_
        refine st rfl rfl (e_move rfl) ?_
        refine stB (fun hs7 => ?_) (fun hs7 => ?_)
        ·
          try simp only [decide_eq_true_eq, decide_eq_false_iff_not, Bool.not_eq_true', Bool.not_eq_false', Bool.not_eq_true, Bool.not_eq_false] at hs7
          refine stEnd (hK _ [(1, _), (2, _), (3, _), (7, _), (9, _), (10, _), (11, _), (12, _), (18, _), (19, _), (54, _)] _ _ rfl ?_)
          clear hK K
          refine W.condT rfl ?_
          refine W.rR [1, 2, 3, 7, 9, 10, 11, 18, 19] fun K hK => ?_
          refine st rfl rfl (e_move rfl) ?_
          refine st rfl rfl (e_loadA t46 rfl rfl (by repeat (first | exact look_same | assumption | refine look_ne (by omega) ?_ | refine look_del (by omega) ?_ | refine look_keep (by assumption) (by omega) (by simp; try omega) ?_)) rfl rfl) ?_
          refine st rfl rfl (e_buildSlice rfl rfl (bsl32_1)) ?_
          refine st rfl rfl (e_append t32 t32 t46 rfl rfl (by repeat (first | exact look_same | assumption | refine look_ne (by omega) ?_ | refine look_del (by omega) ?_ | refine look_keep (by assumption) (by omega) (by simp; try omega) ?_)) (by repeat (first | exact look_same | assumption | refine look_ne (by omega) ?_ | refine look_del (by omega) ?_ | refine look_keep (by assumption) (by omega) (by simp; try omega) ?_)) (by decide) (by rw [ints_length, z5_length]) rfl (by have := sws_len (X := X) (Y := Y) (Z := Z) (cs := cs) (p := p) (q := q) m i k; omega)) ?_
          refine st rfl rfl (e_assign rfl) ?_
          refine stEnd (hK _ [(1, _), (2, _), (3, _), (7, _), (9, _), (10, _), (11, _), (18, _), (19, _)] _ _ rfl ?_)
          clear hK K
          refine blockN ?_
          refine thenN ?_
          refine W.rR [7, 11, 1, 2, 3, 9, 10, 18, 19] fun K hK => ?_
          refine st rfl rfl (e_move rfl) ?_
          refine st rfl rfl (e_add rfl rfl (inB _ (by omega))) ?_
          refine st rfl rfl (e_assign rfl) ?_
          refine stEnd (hK _ [(7, _), (11, _), (1, _), (2, _), (3, _), (9, _), (10, _), (18, _), (19, _)] _ _ rfl ?_)
          clear hK K
          exact roundN (V' := [(7, _), (11, _)]) [7, 11, 1, 2, 3, 9, 10, 18, 19] rfl (by omega) (by repeat (first | exact Keeps.refl _ _ _ | assumption | refine Keeps.trans ?_ (by assumption) (by omega) (by simp; try omega) | refine Keeps.set ?_ (by first | exact Or.inl (by omega) | (simp; done) | (simp; omega)) | refine Keeps.del ?_ (by first | exact Or.inl (by omega) | (simp; done) | (simp; omega)) | refine Keeps.delO2 ?_ (by omega))) _ (by omega) ⟨k + 1, μ2 + 1 + 1, (by rw [sws_T hs7]; simp), rfl, (by first | omega | assumption | simp_all), (by omega), (look_same.trans (congrArg some (congrArg (Blk.cells false) (by rw [sws_T hs7]; exact z5_snoc _ ((at3 (allC X Y Z) m), i, k)))))⟩
        ·
          try simp only [decide_eq_true_eq, decide_eq_false_iff_not, Bool.not_eq_true', Bool.not_eq_false', Bool.not_eq_true, Bool.not_eq_false] at hs7
          refine stEnd (hK _ [(1, _), (2, _), (3, _), (7, _), (9, _), (10, _), (11, _), (12, _), (18, _), (19, _), (54, _)] _ _ rfl ?_)
          clear hK K
          refine W.condF rfl ?_
          refine W.skip ?_
          refine blockN ?_
          refine thenN ?_
          refine W.rR [7, 11, 1, 2, 3, 9, 10, 18, 19] fun K hK => ?_
          refine st rfl rfl (e_move rfl) ?_
          refine st rfl rfl (e_add rfl rfl (inB _ (by omega))) ?_
          refine st rfl rfl (e_assign rfl) ?_
          refine stEnd (hK _ [(7, _), (11, _), (1, _), (2, _), (3, _), (9, _), (10, _), (18, _), (19, _)] _ _ rfl ?_)
          clear hK K
          exact roundN (V' := [(7, _), (11, _)]) [7, 11, 1, 2, 3, 9, 10, 18, 19] rfl (by omega) (by repeat (first | exact Keeps.refl _ _ _ | assumption | refine Keeps.trans ?_ (by assumption) (by omega) (by simp; try omega) | refine Keeps.set ?_ (by first | exact Or.inl (by omega) | (simp; done) | (simp; omega)) | refine Keeps.del ?_ (by first | exact Or.inl (by omega) | (simp; done) | (simp; omega)) | refine Keeps.delO2 ?_ (by omega))) _ (by omega) ⟨k + 1, r2, (by rw [sws_F hs7]; rfl), rfl, (by first | omega | assumption | simp_all), (by omega), (by rw [sws_F hs7]; exact (by repeat (first | exact look_same | assumption | refine look_ne (by omega) ?_ | refine look_keep (by assumption) (by omega) (by simp; try omega) ?_)))⟩
      ·
        try simp only [decide_eq_true_eq, decide_eq_false_iff_not, Bool.not_eq_true', Bool.not_eq_false', Bool.not_eq_true, Bool.not_eq_false] at hb3
        refine stEnd (hK _ [(1, _), (2, _), (3, _), (7, _), (9, _), (10, _), (11, _), (18, _), (19, _), (31, _)] _ _ rfl ?_)
        clear hK K
        refine W.condF rfl ?_
        refine W.exit ?_
        refine thenE ?_
        refine thenE ?_
        refine blockX ?_
        refine blockN ?_
        refine thenN ?_
        obtain rfl : k = 4 := by omega
        refine W.rR [7, 10, 1, 2, 3, 9, 18, 19] fun K hK => ?_
        refine st rfl rfl (e_move rfl) ?_
        refine st rfl rfl (e_add rfl rfl (inB _ (by omega))) ?_
        refine st rfl rfl (e_assign rfl) ?_
        refine stEnd (hK _ [(7, _), (10, _), (1, _), (2, _), (3, _), (9, _), (18, _), (19, _)] _ _ rfl ?_)
        clear hK K
        exact roundN (V' := [(7, _), (10, _)]) [7, 10, 1, 2, 3, 9, 18, 19] rfl (by omega) (by repeat (first | exact Keeps.refl _ _ _ | assumption | refine Keeps.trans ?_ (by assumption) (by omega) (by simp; try omega) | refine Keeps.set ?_ (by first | exact Or.inl (by omega) | (simp; done) | (simp; omega)) | refine Keeps.del ?_ (by first | exact Or.inl (by omega) | (simp; done) | (simp; omega)) | refine Keeps.delO2 ?_ (by omega))) _ (by omega) ⟨i + 1, r2, (by rw [← sws_k]; rfl), rfl, (by first | omega | assumption | simp_all), (by omega), (by rw [← sws_k]; exact hG2)⟩
    ·
      try simp only [decide_eq_true_eq, decide_eq_false_iff_not, Bool.not_eq_true', Bool.not_eq_false', Bool.not_eq_true, Bool.not_eq_false] at hb2
      refine stEnd (hK _ [(1, _), (2, _), (3, _), (7, _), (9, _), (10, _), (18, _), (19, _), (27, _)] _ _ rfl ?_)
      clear hK K
      refine W.condF rfl ?_
      refine W.exit ?_
      refine thenE ?_
      refine thenE ?_
      refine blockX ?_
      refine blockN ?_
      refine thenN ?_
      obtain rfl : i = 4 := by omega
      refine W.rR [7, 19, 1, 2, 3, 18] fun K hK => ?_
      refine st rfl rfl (e_add rfl rfl (inB _ (by omega))) ?_
      refine st rfl rfl (e_move rfl) ?_
      refine stEnd (hK _ [(7, _), (19, _), (1, _), (2, _), (3, _), (18, _)] _ _ rfl ?_)
      clear hK K
      exact roundN (V' := [(7, _), (19, _)]) [7, 19, 1, 2, 3, 18] rfl (by omega) (by repeat (first | exact Keeps.refl _ _ _ | assumption | refine Keeps.trans ?_ (by assumption) (by omega) (by simp; try omega) | refine Keeps.set ?_ (by first | exact Or.inl (by omega) | (simp; done) | (simp; omega)) | refine Keeps.del ?_ (by first | exact Or.inl (by omega) | (simp; done) | (simp; omega)) | refine Keeps.delO2 ?_ (by omega))) _ (by omega) ⟨m + 1, r1, (by rw [← sws_i]; rfl), rfl, (by first | omega | assumption | simp_all), (by omega), (by rw [← sws_i]; exact hG1)⟩
  ·
    try simp only [decide_eq_true_eq, decide_eq_false_iff_not, Bool.not_eq_true', Bool.not_eq_false', Bool.not_eq_true, Bool.not_eq_false] at hb1
    refine stEnd (hK _ [(1, _), (2, _), (3, _), (7, _), (18, _), (19, _), (20, _)] _ _ rfl ?_)
    clear hK K
    refine W.seq ?_
    refine W.condF rfl ?_
    refine W.exit ?_
    refine thenE ?_
    refine thenE ?_
    refine blockX ?_
    refine thenN ?_
    obtain rfl : m = vol X Y Z := by omega
    refine W.sR [6] fun K hK => ?_
    refine st rfl rfl (e_move rfl) ?_
    refine st rfl rfl (e_assign rfl) ?_
    refine stEnd (hK _ [(6, _)] _ _ rfl ?_)
    clear hK K
    refine W.ret ?_
    refine ⟨.inr rfl, Ends.v1 (r) (by omega) (by repeat (first | exact self_old | assumption | refine set_old ?_ (by omega) | refine del_old ?_ (by omega) | refine keep_old (by assumption) ?_ (by omega) (by simp; try omega))) hfresh (by repeat (first | exact look_same | assumption | refine look_ne (by omega) ?_ | refine look_del (by omega) ?_ | refine look_keep (by assumption) (by omega) (by simp; try omega) ?_)) ?_ (ints_plain _) (by simp [ltT, ltA, ltC, ltV]; try omega) (res1 (resT rfl) rfl) ?_⟩
    · rfl
    · (simp [renT, renV, renC, renA, one]; rfl)
theorem impl_SwitchesOf_ok_s (X Y Z : Int) (b : Nat) (ro : Bool) (cs : List C) (p q : Nat) (H : Heap) (n : Nat) (hb : H b = some (.cells ro (flat cs))) (hlen : cs.length ≤ 1048576) (hh : isHeap X Y Z cs = true) (hp : p < 3) (hq : q < 3) (hpq : p ≠ q) : Fn Try.prog 19 [.agg #[.int .i64 X, .int .i64 Y, .int .i64 Z, .slice (some ⟨b, 0, none⟩) cs.length 3], .int .i64 (p : Nat), .int .i64 (q : Nat)] H n (.tuple #[.slice (some ⟨n, 0, none⟩) (swAll X Y Z cs p q).length 5, .bool true]) (H.set n (.cells false (ints (z5 (swAll X Y Z cs p q))))) (n + 1) := by
  refine Fn.intro' Try.func19 rfl (by kernel_rfl) Try.ntmps19 (by simp) (by omega) fun hfresh => ?_
  have lt_hb := lt_fresh hfresh hb
  have hv := valid_of hh
  have hX := hv.box
  have hvl := vol_le hX
  have hsl := swA_len (X := X) (Y := Y) (Z := Z) (cs := cs) (p := p) (q := q) (vol X Y Z)
  have hswl : (swAll X Y Z cs p q).length ≤ 1024 := (by show (swA X Y Z cs p q (vol X Y Z)).length ≤ 1024; omega)
  show W _ _ _ ⟨[(0, _), (1, _), (2, _)], _, _⟩ _
  refine W.sR [1, 2, 3] fun K hK => ?_
  refine st rfl rfl (e_boxA rfl) ?_
  refine st rfl rfl (e_assign rfl) ?_
  refine st rfl rfl (e_assign rfl) ?_
  refine stEnd (hK _ [(1, _), (2, _), (3, _)] _ _ rfl ?_)
  clear hK K
  refine W.seq ?_
  refine W.sR [1, 2, 3, 16] fun K hK => ?_
  refine st rfl rfl (e_loadA t28 rfl rfl (by repeat (first | exact look_same | assumption | refine look_ne (by omega) ?_)) rfl rfl) ?_
  refine stC rfl rfl rfl (impl_IsHeap_s _ _ _ _ _ _ _ _ (by repeat (first | exact look_same | assumption | refine look_ne (by omega) ?_)) (by omega)) ?_
  rw [hh]
  refine st rfl rfl (e_not rfl) ?_
  refine st rfl rfl (e_move rfl) ?_
  refine st rfl rfl (e_move rfl) ?_
  refine st rfl rfl (e_move rfl) ?_
  refine stC rfl rfl rfl (impl_areDirections_s _ _ _ _ ) ?_
  rw [dirs_yes hp hq hpq]
  refine st rfl rfl (e_not rfl) ?_
  refine st rfl rfl (e_pickF rfl rfl) ?_
  refine stEnd (hK _ [(1, _), (2, _), (3, _), (16, _)] _ _ rfl ?_)
  clear hK K
  refine W.condF rfl ?_
  refine W.skip ?_
  refine thenN ?_
  refine W.sR [6, 7] fun K hK => ?_
  refine st rfl rfl (e_loadA t28 rfl rfl (by repeat (first | exact look_same | assumption | refine look_ne (by omega) ?_)) rfl rfl) ?_
  refine st rfl rfl (e_move rfl) ?_
  refine st rfl rfl (e_move rfl) ?_
  refine stC rfl rfl rfl (impl_Heap_switches_s _ _ _ _ _ _ _ _ _ _ (by repeat (first | exact look_same | assumption | refine look_ne (by omega) ?_)) (by omega) (by assumption) (by assumption) (by assumption) (by assumption)) ?_
  refine st rfl rfl (e_assign rfl) ?_
  refine st rfl rfl (e_assign rfl) ?_
  refine stEnd (hK _ [(6, _), (7, _)] _ _ rfl ?_)
  clear hK K
  refine W.ret ?_
  refine ⟨.inr rfl, Ends.v1 (n + 1) (by omega) (by repeat (first | exact self_old | assumption | refine set_old ?_ (by omega))) hfresh (by repeat (first | exact look_same | assumption | refine look_ne (by omega) ?_)) ?_ (ints_plain _) (by simp [ltT, ltA, ltC, ltV]; try omega) (res2 (resT rfl) (resT rfl) rfl rfl) ?_⟩
  · rfl
  · simp [renT, renV, renC, renA, one]
theorem laws_eqIntA5_s (w : List Int) (H : Heap) (n : Nat) (hw : w.length = 5) : Fn Try.prog 53 [.agg (ints w).toArray, .agg (ints w).toArray] H n (.bool true) (H) (n) := by
  refine Fn.intro' Try.func53 rfl (by kernel_rfl) Try.ntmps53 (by simp) (by omega) fun hfresh => ?_
  show W _ _ _ ⟨[(0, _), (1, _)], _, _⟩ _
  refine W.sR [2, 3] fun K hK => ?_
  refine st rfl rfl (e_boxA rfl) ?_
  refine st rfl rfl (e_boxA rfl) ?_
  refine st rfl rfl (e_assign rfl) ?_
  refine stEnd (hK _ [(2, _), (3, _)] _ _ rfl ?_)
  clear hK K
  refine W.seq ?_
  refine W.sR [2, 3, 5] fun K hK => ?_
  refine st rfl rfl (e_assign rfl) ?_
  refine stEnd (hK _ [(2, _), (3, _), (5, _)] _ _ rfl ?_)
  clear hK K
  refine W.block ?_
  refine W.ord [5, 2, 3] (ts' := [(5, _)] ++ [(2, _), (3, _)]) rfl ?_
  refine W.loopC [(5, _)] [] (fun κ V G μ => ∃ i : Nat, V = [(5, .int .i64 (i : Nat))] ∧ κ = 5 - i ∧ (i ≤ 5)) _ ⟨0, rfl, rfl, (by first | omega | assumption | rfl | simp_all)⟩ fun κ V G μ hinv hμ hkeep hfr => ?_
  obtain ⟨i, rfl, rfl, hi⟩ := hinv
  refine W.seq ?_
  refine W.sR [2, 3, 5, 7] fun K hK => ?_
  refine st rfl rfl (e_move rfl) ?_
  refine st rfl rfl (e_lss rfl rfl) ?_
  refine stB (fun hb1 => ?_) (fun hb1 => ?_)
  ·
    try simp only [decide_eq_true_eq, decide_eq_false_iff_not, Bool.not_eq_true', Bool.not_eq_false', Bool.not_eq_true, Bool.not_eq_false] at hb1
    refine stEnd (hK _ [(2, _), (3, _), (5, _), (7, _)] _ _ rfl ?_)
    clear hK K
    refine W.condT rfl ?_
    refine W.skip ?_
    refine thenN ?_
    refine W.seq ?_
    refine W.block ?_
    refine W.sD [2, 3, 5, 16] [0, 1, 3, 0, 8, 24, 63] (by kernel_rfl) (by kernel_rfl) fun K hK => ?_
    refine dP rfl rfl rfl (e_move rfl) ?_
    refine dP rfl rfl rfl (e_idxAK _ t46 t3 rfl rfl rfl (by first | omega | decide)) ?_
    refine dL rfl rfl rfl (by omega) (accB_ok rfl) (e_load1 t3 rfl rfl (by repeat (first | exact look_same | assumption | refine look_ne (by omega) ?_ | refine look_keep (by assumption) (by omega) (by simp; try omega) ?_)) (ints_at (by omega))) ?_
    refine dP rfl rfl rfl (e_move rfl) ?_
    refine dP rfl rfl rfl (e_idxAK _ t46 t3 rfl rfl rfl (by first | omega | decide)) ?_
    refine dL rfl rfl rfl (by omega) (accB_ok rfl) (e_load1 t3 rfl rfl (by repeat (first | exact look_same | assumption | refine look_ne (by omega) ?_ | refine look_keep (by assumption) (by omega) (by simp; try omega) ?_)) (ints_at (by omega))) ?_
    refine dP rfl rfl rfl (e_neqI_same rfl rfl) ?_
    refine dEnd (hK _ [(2, _), (3, _), (5, _), (16, _)] _ _ rfl ?_)
    clear hK K
    refine W.condF rfl ?_
    refine W.skip ?_
    refine blockN ?_
    refine thenN ?_
    refine W.rR [5, 2, 3] fun K hK => ?_
    refine st rfl rfl (e_move rfl) ?_
    refine st rfl rfl (e_add rfl rfl (inB _ (by omega))) ?_
    refine st rfl rfl (e_assign rfl) ?_
    refine stEnd (hK _ [(5, _), (2, _), (3, _)] _ _ rfl ?_)
    clear hK K
    exact roundN (V' := [(5, _)]) [5, 2, 3] rfl (by omega) (by repeat (first | exact Keeps.refl _ _ _ | assumption | refine Keeps.trans ?_ (by assumption) (by omega) (by simp; try omega) | refine Keeps.set ?_ (by first | exact Or.inl (by omega) | (simp; done) | (simp; omega)) | refine Keeps.del ?_ (by first | exact Or.inl (by omega) | (simp; done) | (simp; omega)) | refine Keeps.delO2 ?_ (by omega))) _ (by omega) ⟨i + 1, rfl, rfl, (by first | omega | assumption | simp_all)⟩
  ·
    try simp only [decide_eq_true_eq, decide_eq_false_iff_not, Bool.not_eq_true', Bool.not_eq_false', Bool.not_eq_true, Bool.not_eq_false] at hb1
    refine stEnd (hK _ [(2, _), (3, _), (5, _), (7, _)] _ _ rfl ?_)
    clear hK K
    refine W.condF rfl ?_
    refine W.exit ?_
    refine thenE ?_
    refine thenE ?_
    refine blockX ?_
    refine thenN ?_
    refine W.sR [4] fun K hK => ?_
    refine st rfl rfl (e_assign rfl) ?_
    refine stEnd (hK _ [(4, _)] _ _ rfl ?_)
    clear hK K
    refine W.ret ?_
    refine ⟨.inr rfl, Ends.v0 (by repeat (first | exact self_old | assumption | refine set_old ?_ (by omega) | refine keep_old (by assumption) ?_ (by omega) (by simp; try omega))) hfresh (by first | rfl | (simp [ltT, ltA, ltC, ltV]; try omega)) (res1 (resT rfl) rfl) ?_⟩
    rfl
theorem laws_eqIntA5S_s (b c m : Nat) (ro ro2 : Bool) (zs : List Int) (H : Heap) (n : Nat) (hb : H b = some (.cells ro (ints zs))) (hc : H c = some (.cells ro2 (ints zs))) (hl : zs.length = m * 5) (hm : m ≤ 1048576) : Fn Try.prog 20 [.slice (some ⟨b, 0, none⟩) m 5, .slice (some ⟨c, 0, none⟩) m 5] H n (.bool true) (H) (n) := by
  refine Fn.intro' Try.func20 rfl (by kernel_rfl) Try.ntmps20 (by simp) (by omega) fun hfresh => ?_
  have lt_hb := lt_fresh hfresh hb
  have lt_hc := lt_fresh hfresh hc
  show W _ _ _ ⟨[(0, _), (1, _)], _, _⟩ _
  refine W.sR [0, 1] fun K hK => ?_
  refine st rfl rfl (e_assign rfl) ?_
  refine stEnd (hK _ [(0, _), (1, _)] _ _ rfl ?_)
  clear hK K
  refine W.seq ?_
  refine W.sR [0, 1, 10] fun K hK => ?_
  refine st rfl rfl (e_move rfl) ?_
  refine st rfl rfl (e_len t32 rfl) ?_
  refine st rfl rfl (e_move rfl) ?_
  refine st rfl rfl (e_len t32 rfl) ?_
  refine st rfl rfl (e_neq rfl rfl) ?_
  refine stB (fun hz => ?_) (fun hz => ?_)
  ·
    exact absurd hz (by simp)
  ·
    try simp only [decide_eq_true_eq, decide_eq_false_iff_not, Bool.not_eq_true', Bool.not_eq_false', Bool.not_eq_true, Bool.not_eq_false] at hz
    refine stEnd (hK _ [(0, _), (1, _), (10, _)] _ _ rfl ?_)
    clear hK K
    refine W.condF rfl ?_
    refine W.skip ?_
    refine thenN ?_
    refine W.seq ?_
    refine W.sR [0, 1, 5] fun K hK => ?_
    refine st rfl rfl (e_assign rfl) ?_
    refine stEnd (hK _ [(0, _), (1, _), (5, _)] _ _ rfl ?_)
    clear hK K
    refine W.block ?_
    refine W.ord [5, 0, 1] (ts' := [(5, _)] ++ [(0, _), (1, _)]) rfl ?_
    refine W.loopC [(5, _)] [] (fun κ V G μ => ∃ i : Nat, V = [(5, .int .i64 (i : Nat))] ∧ κ = m - i ∧ (i ≤ m)) _ ⟨0, rfl, rfl, (by first | omega | assumption | rfl | simp_all)⟩ fun κ V G μ hinv hμ hkeep hfr => ?_
    obtain ⟨i, rfl, rfl, hi⟩ := hinv
    refine W.seq ?_
    refine W.sR [0, 1, 5, 14] fun K hK => ?_
    refine st rfl rfl (e_move rfl) ?_
    refine st rfl rfl (e_move rfl) ?_
    refine st rfl rfl (e_len t32 rfl) ?_
    refine st rfl rfl (e_lss rfl rfl) ?_
    refine stB (fun hb2 => ?_) (fun hb2 => ?_)
    ·
      try simp only [decide_eq_true_eq, decide_eq_false_iff_not, Bool.not_eq_true', Bool.not_eq_false', Bool.not_eq_true, Bool.not_eq_false] at hb2
      refine stEnd (hK _ [(0, _), (1, _), (5, _), (14, _)] _ _ rfl ?_)
      clear hK K
      refine W.condT rfl ?_
      refine W.skip ?_
      refine thenN ?_
      refine W.seq ?_
      refine W.block ?_
      have hw5 := w5_len hl (show i < m by omega)
      refine W.sD [0, 1, 5, 26] [0, 0, 3, 7, 0, 0, 48, 112, 255, 511] (by kernel_rfl) (by kernel_rfl) fun K hK => ?_
      refine dP rfl rfl rfl (e_move rfl) ?_
      refine dP rfl rfl rfl (e_move rfl) ?_
      refine dP rfl rfl rfl (e_idxSK _ t32 t46 rfl rfl rfl (by first | omega | decide)) ?_
      refine dL rfl rfl rfl (by omega) (accB_ok rfl) (e_loadP t46 rfl rfl (by repeat (first | exact look_same | assumption | refine look_ne (by omega) ?_ | refine look_keep (by assumption) (by omega) (by simp; try omega) ?_)) (ints_w5 hl (by omega))) ?_
      refine dP rfl rfl rfl (e_move rfl) ?_
      refine dP rfl rfl rfl (e_move rfl) ?_
      refine dP rfl rfl rfl (e_idxSK _ t32 t46 rfl rfl rfl (by first | omega | decide)) ?_
      refine dL rfl rfl rfl (by omega) (accB_ok rfl) (e_loadP t46 rfl rfl (by repeat (first | exact look_same | assumption | refine look_ne (by omega) ?_ | refine look_keep (by assumption) (by omega) (by simp; try omega) ?_)) (ints_w5 hl (by omega))) ?_
      refine dC rfl rfl rfl rfl (laws_eqIntA5_s _ _ _ (by assumption)) (accB_ok rfl) ?_
      refine dP rfl rfl rfl (e_not rfl) ?_
      refine dEnd (hK _ [(0, _), (1, _), (5, _), (26, _)] _ _ rfl ?_)
      clear hK K
      refine W.condF rfl ?_
      refine W.skip ?_
      refine blockN ?_
      refine thenN ?_
      refine W.rR [5, 0, 1] fun K hK => ?_
      refine st rfl rfl (e_move rfl) ?_
      refine st rfl rfl (e_add rfl rfl (inB _ (by omega))) ?_
      refine st rfl rfl (e_assign rfl) ?_
      refine stEnd (hK _ [(5, _), (0, _), (1, _)] _ _ rfl ?_)
      clear hK K
      exact roundN (V' := [(5, _)]) [5, 0, 1] rfl (by omega) (by repeat (first | exact Keeps.refl _ _ _ | assumption | refine Keeps.trans ?_ (by assumption) (by omega) (by simp; try omega) | refine Keeps.set ?_ (by first | exact Or.inl (by omega) | (simp; done) | (simp; omega)) | refine Keeps.del ?_ (by first | exact Or.inl (by omega) | (simp; done) | (simp; omega)) | refine Keeps.delO2 ?_ (by omega))) _ (by omega) ⟨i + 1, rfl, rfl, (by first | omega | assumption | simp_all)⟩
    ·
      try simp only [decide_eq_true_eq, decide_eq_false_iff_not, Bool.not_eq_true', Bool.not_eq_false', Bool.not_eq_true, Bool.not_eq_false] at hb2
      refine stEnd (hK _ [(0, _), (1, _), (5, _), (14, _)] _ _ rfl ?_)
      clear hK K
      refine W.condF rfl ?_
      refine W.exit ?_
      refine thenE ?_
      refine thenE ?_
      refine blockX ?_
      refine thenN ?_
      refine W.sR [4] fun K hK => ?_
      refine st rfl rfl (e_assign rfl) ?_
      refine stEnd (hK _ [(4, _)] _ _ rfl ?_)
      clear hK K
      refine W.ret ?_
      refine ⟨.inr rfl, Ends.v0 (by repeat (first | exact self_old | assumption | refine set_old ?_ (by omega) | refine keep_old (by assumption) ?_ (by omega) (by simp; try omega))) hfresh (by first | rfl | (simp [ltT, ltA, ltC, ltV]; try omega)) (res1 (resT rfl) rfl) ?_⟩
      rfl
theorem laws_eqIntA3_s (a b : C) (H : Heap) (n : Nat) : Fn Try.prog 112 [.agg #[.int .i64 a.1, .int .i64 a.2.1, .int .i64 a.2.2], .agg #[.int .i64 b.1, .int .i64 b.2.1, .int .i64 b.2.2]] H n (.bool (decide (a = b))) (H) (n) := by
  refine Fn.intro' Try.func112 rfl (by kernel_rfl) Try.ntmps112 (by simp) (by omega) fun hfresh => ?_
  show W _ _ _ ⟨[(0, _), (1, _)], _, _⟩ _
  refine W.sR [2, 3] fun K hK => ?_
  refine st rfl rfl (e_boxA rfl) ?_
  refine st rfl rfl (e_boxA rfl) ?_
  refine st rfl rfl (e_assign rfl) ?_
  refine stEnd (hK _ [(2, _), (3, _)] _ _ rfl ?_)
  clear hK K
  refine W.seq ?_
  refine W.sR [2, 3, 5] fun K hK => ?_
  refine st rfl rfl (e_assign rfl) ?_
  refine stEnd (hK _ [(2, _), (3, _), (5, _)] _ _ rfl ?_)
  clear hK K
  refine W.block ?_
  refine W.ord [5, 2, 3] (ts' := [(5, _)] ++ [(2, _), (3, _)]) rfl ?_
  refine W.loopC [(5, _)] [] (fun κ V G μ => ∃ i : Nat, V = [(5, .int .i64 (i : Nat))] ∧ κ = 3 - i ∧ (i ≤ 3) ∧ (∀ j, j < i → ci a j = ci b j)) _ ⟨0, rfl, rfl, (by first | omega | assumption | rfl | simp_all), (fun j hj => absurd hj (by omega))⟩ fun κ V G μ hinv hμ hkeep hfr => ?_
  obtain ⟨i, rfl, rfl, hi, hq⟩ := hinv
  refine W.seq ?_
  refine W.sR [2, 3, 5, 7] fun K hK => ?_
  refine st rfl rfl (e_move rfl) ?_
  refine st rfl rfl (e_lss rfl rfl) ?_
  refine stB (fun hb1 => ?_) (fun hb1 => ?_)
  ·
    try simp only [decide_eq_true_eq, decide_eq_false_iff_not, Bool.not_eq_true', Bool.not_eq_false', Bool.not_eq_true, Bool.not_eq_false] at hb1
    refine stEnd (hK _ [(2, _), (3, _), (5, _), (7, _)] _ _ rfl ?_)
    clear hK K
    refine W.condT rfl ?_
    refine W.skip ?_
    refine thenN ?_
    refine W.seq ?_
    refine W.block ?_
    refine W.sD [2, 3, 5, 16] [0, 1, 3, 0, 8, 24, 63] (by kernel_rfl) (by kernel_rfl) fun K hK => ?_
    refine dP rfl rfl rfl (e_move rfl) ?_
    refine dP rfl rfl rfl (e_idxAK _ t62 t3 rfl rfl rfl (by first | omega | decide)) ?_
    refine dL rfl rfl rfl (by omega) (accB_ok rfl) (e_load1 t3 rfl rfl (by repeat (first | exact look_same | assumption | refine look_ne (by omega) ?_ | refine look_keep (by assumption) (by omega) (by simp; try omega) ?_)) (by first | rfl | exact tri_getL (by omega))) ?_
    refine dP rfl rfl rfl (e_move rfl) ?_
    refine dP rfl rfl rfl (e_idxAK _ t62 t3 rfl rfl rfl (by first | omega | decide)) ?_
    refine dL rfl rfl rfl (by omega) (accB_ok rfl) (e_load1 t3 rfl rfl (by repeat (first | exact look_same | assumption | refine look_ne (by omega) ?_ | refine look_keep (by assumption) (by omega) (by simp; try omega) ?_)) (by first | rfl | exact tri_getL (by omega))) ?_
    refine dP rfl rfl rfl (e_neq rfl rfl) ?_
    refine dB (fun hb2 => ?_) (fun hb2 => ?_)
    ·
      try simp only [decide_eq_true_eq, decide_eq_false_iff_not, Bool.not_eq_true', Bool.not_eq_false', Bool.not_eq_true, Bool.not_eq_false] at hb2
      refine dEnd (hK _ [(2, _), (3, _), (5, _), (16, _)] _ _ rfl ?_)
      clear hK K
      refine W.condT rfl ?_
      refine W.sR [4] fun K hK => ?_
      refine st rfl rfl (e_assign rfl) ?_
      refine stEnd (hK _ [(4, _)] _ _ rfl ?_)
      clear hK K
      refine W.ret ?_
      refine blockR ?_
      refine thenR ?_
      refine thenR ?_
      refine blockR ?_
      refine thenR ?_
      refine ⟨.inr rfl, Ends.v0 (by repeat (first | exact self_old | assumption | refine set_old ?_ (by omega) | refine keep_old (by assumption) ?_ (by omega) (by simp; try omega))) hfresh (by first | rfl | (simp [ltT, ltA, ltC, ltV]; try omega)) (res1 (resT rfl) rfl) ?_⟩
      first | (rw [decide_eq_true (ci_ext (fun j hj => hq j (by omega)))]) | (congr 1; refine (decide_eq_false ?_).symm; intro e; subst e; first | (exact absurd rfl (by assumption)) | omega)
    ·
      try simp only [decide_eq_true_eq, decide_eq_false_iff_not, Bool.not_eq_true', Bool.not_eq_false', Bool.not_eq_true, Bool.not_eq_false] at hb2
      refine dEnd (hK _ [(2, _), (3, _), (5, _), (16, _)] _ _ rfl ?_)
      clear hK K
      refine W.condF rfl ?_
      refine W.skip ?_
      refine blockN ?_
      refine thenN ?_
      refine W.rR [5, 2, 3] fun K hK => ?_
      refine st rfl rfl (e_move rfl) ?_
      refine st rfl rfl (e_add rfl rfl (inB _ (by omega))) ?_
      refine st rfl rfl (e_assign rfl) ?_
      refine stEnd (hK _ [(5, _), (2, _), (3, _)] _ _ rfl ?_)
      clear hK K
      exact roundN (V' := [(5, _)]) [5, 2, 3] rfl (by omega) (by repeat (first | exact Keeps.refl _ _ _ | assumption | refine Keeps.trans ?_ (by assumption) (by omega) (by simp; try omega) | refine Keeps.set ?_ (by first | exact Or.inl (by omega) | (simp; done) | (simp; omega)) | refine Keeps.del ?_ (by first | exact Or.inl (by omega) | (simp; done) | (simp; omega)) | refine Keeps.delO2 ?_ (by omega))) _ (by omega) ⟨i + 1, rfl, rfl, (by first | omega | assumption | simp_all), (all_succ hq (by assumption))⟩
  ·
    try simp only [decide_eq_true_eq, decide_eq_false_iff_not, Bool.not_eq_true', Bool.not_eq_false', Bool.not_eq_true, Bool.not_eq_false] at hb1
    refine stEnd (hK _ [(2, _), (3, _), (5, _), (7, _)] _ _ rfl ?_)
    clear hK K
    refine W.condF rfl ?_
    refine W.exit ?_
    refine thenE ?_
    refine thenE ?_
    refine blockX ?_
    refine thenN ?_
    refine W.sR [4] fun K hK => ?_
    refine st rfl rfl (e_assign rfl) ?_
    refine stEnd (hK _ [(4, _)] _ _ rfl ?_)
    clear hK K
    refine W.ret ?_
    refine ⟨.inr rfl, Ends.v0 (by repeat (first | exact self_old | assumption | refine set_old ?_ (by omega) | refine keep_old (by assumption) ?_ (by omega) (by simp; try omega))) hfresh (by first | rfl | (simp [ltT, ltA, ltC, ltV]; try omega)) (res1 (resT rfl) rfl) ?_⟩
    first | (rw [decide_eq_true (ci_ext (fun j hj => hq j (by omega)))]) | (congr 1; refine (decide_eq_false ?_).symm; intro e; subst e; first | (exact absurd rfl (by assumption)) | omega)
theorem laws_eqIntA3S_s (b : Nat) (ro : Bool) (xs : List C) (c : Nat) (ro2 : Bool) (ys : List C) (H : Heap) (n : Nat) (hb : H b = some (.cells ro (flat xs))) (hc : H c = some (.cells ro2 (flat ys))) (hxs : xs.length ≤ 1048576) : Fn Try.prog 52 [.slice (some ⟨b, 0, none⟩) xs.length 3, .slice (some ⟨c, 0, none⟩) ys.length 3] H n (.bool (decide (xs = ys))) (H) (n) := by
  refine Fn.intro' Try.func52 rfl (by kernel_rfl) Try.ntmps52 (by simp) (by omega) fun hfresh => ?_
  have lt_hb := lt_fresh hfresh hb
  have lt_hc := lt_fresh hfresh hc
  show W _ _ _ ⟨[(0, _), (1, _)], _, _⟩ _
  refine W.sR [0, 1] fun K hK => ?_
  refine st rfl rfl (e_assign rfl) ?_
  refine stEnd (hK _ [(0, _), (1, _)] _ _ rfl ?_)
  clear hK K
  refine W.seq ?_
  refine W.sR [0, 1, 10] fun K hK => ?_
  refine st rfl rfl (e_move rfl) ?_
  refine st rfl rfl (e_len t22 rfl) ?_
  refine st rfl rfl (e_move rfl) ?_
  refine st rfl rfl (e_len t22 rfl) ?_
  refine st rfl rfl (e_neq rfl rfl) ?_
  refine stB (fun hb1 => ?_) (fun hb1 => ?_)
  ·
    try simp only [decide_eq_true_eq, decide_eq_false_iff_not, Bool.not_eq_true', Bool.not_eq_false', Bool.not_eq_true, Bool.not_eq_false] at hb1
    refine stEnd (hK _ [(0, _), (1, _), (10, _)] _ _ rfl ?_)
    clear hK K
    refine W.condT rfl ?_
    refine W.sR [4] fun K hK => ?_
    refine st rfl rfl (e_assign rfl) ?_
    refine stEnd (hK _ [(4, _)] _ _ rfl ?_)
    clear hK K
    refine W.ret ?_
    refine thenR ?_
    refine ⟨.inr rfl, Ends.v0 (by repeat (first | exact self_old | assumption | refine set_old ?_ (by omega) | refine keep_old (by assumption) ?_ (by omega) (by simp; try omega))) hfresh (by first | rfl | (simp [ltT, ltA, ltC, ltV]; try omega)) (res1 (resT rfl) rfl) ?_⟩
    first | (rw [decide_eq_true (ext3 (by omega) (fun j hj => hq j (by omega)))]) | (congr 1; refine (decide_eq_false ?_).symm; intro e; subst e; first | (exact absurd rfl (by assumption)) | omega)
  ·
    try simp only [decide_eq_true_eq, decide_eq_false_iff_not, Bool.not_eq_true', Bool.not_eq_false', Bool.not_eq_true, Bool.not_eq_false] at hb1
    refine stEnd (hK _ [(0, _), (1, _), (10, _)] _ _ rfl ?_)
    clear hK K
    refine W.condF rfl ?_
    refine W.skip ?_
    refine thenN ?_
    refine W.seq ?_
    refine W.sR [0, 1, 5] fun K hK => ?_
    refine st rfl rfl (e_assign rfl) ?_
    refine stEnd (hK _ [(0, _), (1, _), (5, _)] _ _ rfl ?_)
    clear hK K
    refine W.block ?_
    refine W.ord [5, 0, 1] (ts' := [(5, _)] ++ [(0, _), (1, _)]) rfl ?_
    refine W.loopC [(5, _)] [] (fun κ V G μ => ∃ i : Nat, V = [(5, .int .i64 (i : Nat))] ∧ κ = xs.length - i ∧ (i ≤ xs.length) ∧ (∀ j, j < i → at3 xs j = at3 ys j)) _ ⟨0, rfl, rfl, (by first | omega | assumption | rfl | simp_all), (fun j hj => absurd hj (by omega))⟩ fun κ V G μ hinv hμ hkeep hfr => ?_
    obtain ⟨i, rfl, rfl, hi, hq⟩ := hinv
    refine W.seq ?_
    refine W.sR [0, 1, 5, 14] fun K hK => ?_
    refine st rfl rfl (e_move rfl) ?_
    refine st rfl rfl (e_move rfl) ?_
    refine st rfl rfl (e_len t22 rfl) ?_
    refine st rfl rfl (e_lss rfl rfl) ?_
    refine stB (fun hb2 => ?_) (fun hb2 => ?_)
    ·
      try simp only [decide_eq_true_eq, decide_eq_false_iff_not, Bool.not_eq_true', Bool.not_eq_false', Bool.not_eq_true, Bool.not_eq_false] at hb2
      refine stEnd (hK _ [(0, _), (1, _), (5, _), (14, _)] _ _ rfl ?_)
      clear hK K
      refine W.condT rfl ?_
      refine W.skip ?_
      refine thenN ?_
      refine W.seq ?_
      refine W.block ?_
      refine W.sD [0, 1, 5, 26] [0, 0, 3, 7, 0, 0, 48, 112, 255, 511] (by kernel_rfl) (by kernel_rfl) fun K hK => ?_
      refine dP rfl rfl rfl (e_move rfl) ?_
      refine dP rfl rfl rfl (e_move rfl) ?_
      refine dP rfl rfl rfl (e_idxSK _ t22 t62 rfl rfl rfl (by first | omega | decide)) ?_
      refine dL rfl rfl rfl (by omega) (accB_ok rfl) (e_loadP t62 rfl rfl (by repeat (first | exact look_same | assumption | refine look_ne (by omega) ?_ | refine look_keep (by assumption) (by omega) (by simp; try omega) ?_)) (flat_at (by omega))) ?_
      refine dP rfl rfl rfl (e_move rfl) ?_
      refine dP rfl rfl rfl (e_move rfl) ?_
      refine dP rfl rfl rfl (e_idxSK _ t22 t62 rfl rfl rfl (by first | omega | decide)) ?_
      refine dL rfl rfl rfl (by omega) (accB_ok rfl) (e_loadP t62 rfl rfl (by repeat (first | exact look_same | assumption | refine look_ne (by omega) ?_ | refine look_keep (by assumption) (by omega) (by simp; try omega) ?_)) (flat_at (by omega))) ?_
      refine dC rfl rfl rfl rfl (laws_eqIntA3_s _ _ _ _ ) (accB_ok rfl) ?_
      refine dP rfl rfl rfl (e_not rfl) ?_
      refine dB (fun hb3 => ?_) (fun hb3 => ?_)
      ·
        try simp only [decide_eq_true_eq, decide_eq_false_iff_not, Bool.not_eq_true', Bool.not_eq_false', Bool.not_eq_true, Bool.not_eq_false] at hb3
        refine dEnd (hK _ [(0, _), (1, _), (5, _), (26, _)] _ _ rfl ?_)
        clear hK K
        refine W.condT rfl ?_
        refine W.sR [4] fun K hK => ?_
        refine st rfl rfl (e_assign rfl) ?_
        refine stEnd (hK _ [(4, _)] _ _ rfl ?_)
        clear hK K
        refine W.ret ?_
        refine blockR ?_
        refine thenR ?_
        refine thenR ?_
        refine blockR ?_
        refine thenR ?_
        refine ⟨.inr rfl, Ends.v0 (by repeat (first | exact self_old | assumption | refine set_old ?_ (by omega) | refine keep_old (by assumption) ?_ (by omega) (by simp; try omega))) hfresh (by first | rfl | (simp [ltT, ltA, ltC, ltV]; try omega)) (res1 (resT rfl) rfl) ?_⟩
        first | (rw [decide_eq_true (ext3 (by omega) (fun j hj => hq j (by omega)))]) | (congr 1; refine (decide_eq_false ?_).symm; intro e; subst e; first | (exact absurd rfl (by assumption)) | omega)
      ·
        try simp only [decide_eq_true_eq, decide_eq_false_iff_not, Bool.not_eq_true', Bool.not_eq_false', Bool.not_eq_true, Bool.not_eq_false] at hb3
        refine dEnd (hK _ [(0, _), (1, _), (5, _), (26, _)] _ _ rfl ?_)
        clear hK K
        refine W.condF rfl ?_
        refine W.skip ?_
        refine blockN ?_
        refine thenN ?_
        refine W.rR [5, 0, 1] fun K hK => ?_
        refine st rfl rfl (e_move rfl) ?_
        refine st rfl rfl (e_add rfl rfl (inB _ (by omega))) ?_
        refine st rfl rfl (e_assign rfl) ?_
        refine stEnd (hK _ [(5, _), (0, _), (1, _)] _ _ rfl ?_)
        clear hK K
        exact roundN (V' := [(5, _)]) [5, 0, 1] rfl (by omega) (by repeat (first | exact Keeps.refl _ _ _ | assumption | refine Keeps.trans ?_ (by assumption) (by omega) (by simp; try omega) | refine Keeps.set ?_ (by first | exact Or.inl (by omega) | (simp; done) | (simp; omega)) | refine Keeps.del ?_ (by first | exact Or.inl (by omega) | (simp; done) | (simp; omega)) | refine Keeps.delO2 ?_ (by omega))) _ (by omega) ⟨i + 1, rfl, rfl, (by first | omega | assumption | simp_all), (all_succ hq (by assumption))⟩
    ·
      try simp only [decide_eq_true_eq, decide_eq_false_iff_not, Bool.not_eq_true', Bool.not_eq_false', Bool.not_eq_true, Bool.not_eq_false] at hb2
      refine stEnd (hK _ [(0, _), (1, _), (5, _), (14, _)] _ _ rfl ?_)
      clear hK K
      refine W.condF rfl ?_
      refine W.exit ?_
      refine thenE ?_
      refine thenE ?_
      refine blockX ?_
      refine thenN ?_
      refine W.sR [4] fun K hK => ?_
      refine st rfl rfl (e_assign rfl) ?_
      refine stEnd (hK _ [(4, _)] _ _ rfl ?_)
      clear hK K
      refine W.ret ?_
      refine ⟨.inr rfl, Ends.v0 (by repeat (first | exact self_old | assumption | refine set_old ?_ (by omega) | refine keep_old (by assumption) ?_ (by omega) (by simp; try omega))) hfresh (by first | rfl | (simp [ltT, ltA, ltC, ltV]; try omega)) (res1 (resT rfl) rfl) ?_⟩
      first | (rw [decide_eq_true (ext3 (by omega) (fun j hj => hq j (by omega)))]) | (congr 1; refine (decide_eq_false ?_).symm; intro e; subst e; first | (exact absurd rfl (by assumption)) | omega)
theorem laws_eqHeap_s (X Y Z : Int) (b : Nat) (ro : Bool) (cs : List C) (X2 Y2 Z2 : Int) (c : Nat) (ro2 : Bool) (ds : List C) (H : Heap) (n : Nat) (hb : H b = some (.cells ro (flat cs))) (hc : H c = some (.cells ro2 (flat ds))) (hlen : cs.length ≤ 1048576) : Fn Try.prog 17 [.agg #[.int .i64 X, .int .i64 Y, .int .i64 Z, .slice (some ⟨b, 0, none⟩) cs.length 3], .agg #[.int .i64 X2, .int .i64 Y2, .int .i64 Z2, .slice (some ⟨c, 0, none⟩) ds.length 3]] H n (.bool (decide (X = X2 ∧ Y = Y2 ∧ Z = Z2 ∧ cs = ds))) (H) (n) := by
  refine Fn.intro' Try.func17 rfl (by kernel_rfl) Try.ntmps17 (by simp) (by omega) fun hfresh => ?_
  have lt_hb := lt_fresh hfresh hb
  have lt_hc := lt_fresh hfresh hc
  show W _ _ _ ⟨[(0, _), (1, _)], _, _⟩ _
  refine W.sR [2, 3] fun K hK => ?_
  refine st rfl rfl (e_boxA rfl) ?_
  refine st rfl rfl (e_boxA rfl) ?_
  refine st rfl rfl (e_assign rfl) ?_
  refine stEnd (hK _ [(2, _), (3, _)] _ _ rfl ?_)
  clear hK K
  refine W.seq ?_
  refine W.sR [2, 3, 9] fun K hK => ?_
  refine st rfl rfl (e_fieldAddr t28 t3 rfl rfl) ?_
  refine st rfl rfl (e_load1 t3 rfl rfl (by repeat (first | exact look_same | assumption | refine look_ne (by omega) ?_)) rfl) ?_
  refine st rfl rfl (e_fieldAddr t28 t3 rfl rfl) ?_
  refine st rfl rfl (e_load1 t3 rfl rfl (by repeat (first | exact look_same | assumption | refine look_ne (by omega) ?_)) rfl) ?_
  refine st rfl rfl (e_neq rfl rfl) ?_
  refine stB (fun hb1 => ?_) (fun hb1 => ?_)
  ·
    try simp only [decide_eq_true_eq, decide_eq_false_iff_not, Bool.not_eq_true', Bool.not_eq_false', Bool.not_eq_true, Bool.not_eq_false] at hb1
    refine stEnd (hK _ [(2, _), (3, _), (9, _)] _ _ rfl ?_)
    clear hK K
    refine W.condT rfl ?_
    refine W.sR [4] fun K hK => ?_
    refine st rfl rfl (e_assign rfl) ?_
    refine stEnd (hK _ [(4, _)] _ _ rfl ?_)
    clear hK K
    refine W.ret ?_
    refine thenR ?_
    refine ⟨.inr rfl, Ends.v0 (by repeat (first | exact self_old | assumption | refine set_old ?_ (by omega))) hfresh (by first | rfl | (simp [ltT, ltA, ltC, ltV]; try omega)) (res1 (resT rfl) rfl) ?_⟩
    first | simp_all | (simp_all; omega)
  ·
    try simp only [decide_eq_true_eq, decide_eq_false_iff_not, Bool.not_eq_true', Bool.not_eq_false', Bool.not_eq_true, Bool.not_eq_false] at hb1
    refine stEnd (hK _ [(2, _), (3, _), (9, _)] _ _ rfl ?_)
    clear hK K
    refine W.condF rfl ?_
    refine W.skip ?_
    refine thenN ?_
    refine W.seq ?_
    refine W.sR [2, 3, 14] fun K hK => ?_
    refine st rfl rfl (e_fieldAddr t28 t3 rfl rfl) ?_
    refine st rfl rfl (e_load1 t3 rfl rfl (by repeat (first | exact look_same | assumption | refine look_ne (by omega) ?_)) rfl) ?_
    refine st rfl rfl (e_fieldAddr t28 t3 rfl rfl) ?_
    refine st rfl rfl (e_load1 t3 rfl rfl (by repeat (first | exact look_same | assumption | refine look_ne (by omega) ?_)) rfl) ?_
    refine st rfl rfl (e_neq rfl rfl) ?_
    refine stB (fun hb2 => ?_) (fun hb2 => ?_)
    ·
      try simp only [decide_eq_true_eq, decide_eq_false_iff_not, Bool.not_eq_true', Bool.not_eq_false', Bool.not_eq_true, Bool.not_eq_false] at hb2
      refine stEnd (hK _ [(2, _), (3, _), (14, _)] _ _ rfl ?_)
      clear hK K
      refine W.condT rfl ?_
      refine W.sR [4] fun K hK => ?_
      refine st rfl rfl (e_assign rfl) ?_
      refine stEnd (hK _ [(4, _)] _ _ rfl ?_)
      clear hK K
      refine W.ret ?_
      refine thenR ?_
      refine ⟨.inr rfl, Ends.v0 (by repeat (first | exact self_old | assumption | refine set_old ?_ (by omega))) hfresh (by first | rfl | (simp [ltT, ltA, ltC, ltV]; try omega)) (res1 (resT rfl) rfl) ?_⟩
      first | simp_all | (simp_all; omega)
    ·
      try simp only [decide_eq_true_eq, decide_eq_false_iff_not, Bool.not_eq_true', Bool.not_eq_false', Bool.not_eq_true, Bool.not_eq_false] at hb2
      refine stEnd (hK _ [(2, _), (3, _), (14, _)] _ _ rfl ?_)
      clear hK K
      refine W.condF rfl ?_
      refine W.skip ?_
      refine thenN ?_
      refine W.seq ?_
      refine W.sR [2, 3, 19] fun K hK => ?_
      refine st rfl rfl (e_fieldAddr t28 t3 rfl rfl) ?_
      refine st rfl rfl (e_load1 t3 rfl rfl (by repeat (first | exact look_same | assumption | refine look_ne (by omega) ?_)) rfl) ?_
      refine st rfl rfl (e_fieldAddr t28 t3 rfl rfl) ?_
      refine st rfl rfl (e_load1 t3 rfl rfl (by repeat (first | exact look_same | assumption | refine look_ne (by omega) ?_)) rfl) ?_
      refine st rfl rfl (e_neq rfl rfl) ?_
      refine stB (fun hb3 => ?_) (fun hb3 => ?_)
      ·
        try simp only [decide_eq_true_eq, decide_eq_false_iff_not, Bool.not_eq_true', Bool.not_eq_false', Bool.not_eq_true, Bool.not_eq_false] at hb3
        refine stEnd (hK _ [(2, _), (3, _), (19, _)] _ _ rfl ?_)
        clear hK K
        refine W.condT rfl ?_
        refine W.sR [4] fun K hK => ?_
        refine st rfl rfl (e_assign rfl) ?_
        refine stEnd (hK _ [(4, _)] _ _ rfl ?_)
        clear hK K
        refine W.ret ?_
        refine thenR ?_
        refine ⟨.inr rfl, Ends.v0 (by repeat (first | exact self_old | assumption | refine set_old ?_ (by omega))) hfresh (by first | rfl | (simp [ltT, ltA, ltC, ltV]; try omega)) (res1 (resT rfl) rfl) ?_⟩
        first | simp_all | (simp_all; omega)
      ·
        try simp only [decide_eq_true_eq, decide_eq_false_iff_not, Bool.not_eq_true', Bool.not_eq_false', Bool.not_eq_true, Bool.not_eq_false] at hb3
        refine stEnd (hK _ [(2, _), (3, _), (19, _)] _ _ rfl ?_)
        clear hK K
        refine W.condF rfl ?_
        refine W.skip ?_
        refine thenN ?_
        refine W.seq ?_
        refine W.sR [25] fun K hK => ?_
        refine st rfl rfl (e_fieldAddr t28 t22 rfl rfl) ?_
        refine st rfl rfl (e_load1 t22 rfl rfl (by repeat (first | exact look_same | assumption | refine look_ne (by omega) ?_)) rfl) ?_
        refine st rfl rfl (e_fieldAddr t28 t22 rfl rfl) ?_
        refine st rfl rfl (e_load1 t22 rfl rfl (by repeat (first | exact look_same | assumption | refine look_ne (by omega) ?_)) rfl) ?_
        refine stC rfl rfl rfl (laws_eqIntA3S_s _ _ _ _ _ _ _ _ (by repeat (first | exact look_same | assumption | refine look_ne (by omega) ?_)) (by repeat (first | exact look_same | assumption | refine look_ne (by omega) ?_)) (by omega)) ?_
        refine st rfl rfl (e_not rfl) ?_
        refine stB (fun hb4 => ?_) (fun hb4 => ?_)
        ·
          try simp only [decide_eq_true_eq, decide_eq_false_iff_not, Bool.not_eq_true', Bool.not_eq_false', Bool.not_eq_true, Bool.not_eq_false] at hb4
          refine stEnd (hK _ [(25, _)] _ _ rfl ?_)
          clear hK K
          refine W.condT rfl ?_
          refine W.sR [4] fun K hK => ?_
          refine st rfl rfl (e_assign rfl) ?_
          refine stEnd (hK _ [(4, _)] _ _ rfl ?_)
          clear hK K
          refine W.ret ?_
          refine thenR ?_
          refine ⟨.inr rfl, Ends.v0 (by repeat (first | exact self_old | assumption | refine set_old ?_ (by omega))) hfresh (by first | rfl | (simp [ltT, ltA, ltC, ltV]; try omega)) (res1 (resT rfl) rfl) ?_⟩
          first | simp_all | (simp_all; omega)
        ·
          try simp only [decide_eq_true_eq, decide_eq_false_iff_not, Bool.not_eq_true', Bool.not_eq_false', Bool.not_eq_true, Bool.not_eq_false] at hb4
          refine stEnd (hK _ [(25, _)] _ _ rfl ?_)
          clear hK K
          refine W.condF rfl ?_
          refine W.skip ?_
          refine thenN ?_
          refine W.sR [4] fun K hK => ?_
          refine st rfl rfl (e_assign rfl) ?_
          refine stEnd (hK _ [(4, _)] _ _ rfl ?_)
          clear hK K
          refine W.ret ?_
          refine ⟨.inr rfl, Ends.v0 (by repeat (first | exact self_old | assumption | refine set_old ?_ (by omega))) hfresh (by first | rfl | (simp [ltT, ltA, ltC, ltV]; try omega)) (res1 (resT rfl) rfl) ?_⟩
          first | simp_all | (simp_all; omega)
theorem laws_markIntA3S_s (b m : Nat) (vs : List Value) (k : Int) (H : Heap) (n : Nat) (hb : H b = some (.cells false vs)) (hl : vs.length = 3 * m) (hp : vs.all plainA = true) (hk : (0 ≤ k ∧ k ≤ 1099511627776) ∧ m ≤ 1073741824) : Fn Try.prog 54 [.slice (some ⟨b, 0, none⟩) m 3, .int .i64 k] H n (.int .i64 (k + 3 * (m : Int))) (H.set b (.cells false (markV k (3 * m) vs))) (n) := by
  refine Fn.intro' Try.func54 rfl (by kernel_rfl) Try.ntmps54 (by simp) (by omega) fun hfresh => ?_
  have lt_hb := lt_fresh hfresh hb
  show W _ _ _ ⟨[(0, _), (1, _)], _, _⟩ _
  refine W.sR [0, 1] fun K hK => ?_
  refine st rfl rfl (e_assign rfl) ?_
  refine stEnd (hK _ [(0, _), (1, _)] _ _ rfl ?_)
  clear hK K
  refine W.seq ?_
  refine W.sR [0, 1, 5] fun K hK => ?_
  refine st rfl rfl (e_assign rfl) ?_
  refine stEnd (hK _ [(0, _), (1, _), (5, _)] _ _ rfl ?_)
  clear hK K
  refine W.block ?_
  refine W.ord [1, 5, 0] (ts' := [(1, _), (5, _)] ++ [(0, _)]) rfl ?_
  refine W.loopC [(1, _), (5, _)] [b] (fun κ V G μ => ∃ i : Nat, V = [(1, .int .i64 (k + 3 * (i : Int))), (5, .int .i64 (i : Nat))] ∧ κ = m - i ∧ (i ≤ m) ∧ (G b = some (.cells false (markV k (3 * i) vs)))) _ ⟨0, (by simp), rfl, (by first | omega | assumption | rfl | simp_all), (by rw [Nat.mul_zero, markV_zero]; exact (by repeat (first | exact look_same | assumption | refine look_ne (by omega) ?_ | refine look_keep (by assumption) (by omega) (by simp; try omega) ?_)))⟩ fun κ V G μ hinv hμ hkeep hfr => ?_
  obtain ⟨i, rfl, rfl, hi, hG⟩ := hinv
  refine W.seq ?_
  refine W.sR [0, 1, 5, 10] fun K hK => ?_
  refine st rfl rfl (e_move rfl) ?_
  refine st rfl rfl (e_move rfl) ?_
  refine st rfl rfl (e_len t22 rfl) ?_
  refine st rfl rfl (e_lss rfl rfl) ?_
  refine stB (fun hb1 => ?_) (fun hb1 => ?_)
  ·
    try simp only [decide_eq_true_eq, decide_eq_false_iff_not, Bool.not_eq_true', Bool.not_eq_false', Bool.not_eq_true, Bool.not_eq_false] at hb1
    refine stEnd (hK _ [(0, _), (1, _), (5, _), (10, _)] _ _ rfl ?_)
    clear hK K
    refine W.condT rfl ?_
    refine W.skip ?_
    refine thenN ?_
    refine W.seq ?_
    refine W.block ?_
    refine W.sR [0, 1, 5, 6] fun K hK => ?_
    refine st rfl rfl (e_assign rfl) ?_
    refine stEnd (hK _ [(0, _), (1, _), (5, _), (6, _)] _ _ rfl ?_)
    clear hK K
    refine W.block ?_
    refine W.ord [1, 6, 0, 5] (ts' := [(1, _), (6, _)] ++ [(0, _), (5, _)]) rfl ?_
    refine W.loopC [(1, _), (6, _)] [b] (fun κ V G μ => ∃ j : Nat, V = [(1, .int .i64 (k + 3 * (i : Int) + (j : Int))), (6, .int .i64 (j : Nat))] ∧ κ = 3 - j ∧ (j ≤ 3) ∧ (G b = some (.cells false (markV k (3 * i + j) vs)))) _ ⟨0, (by simp), rfl, (by first | omega | assumption | rfl | simp_all), (by exact hG)⟩ fun κ V G μ hinv hμ hkeep hfr => ?_
    obtain ⟨j, rfl, rfl, hj, hG2⟩ := hinv
    refine W.seq ?_
    refine W.sR [0, 1, 5, 6, 14] fun K hK => ?_
    refine st rfl rfl (e_move rfl) ?_
    refine st rfl rfl (e_lss rfl rfl) ?_
    refine stB (fun hb2 => ?_) (fun hb2 => ?_)
    ·
      try simp only [decide_eq_true_eq, decide_eq_false_iff_not, Bool.not_eq_true', Bool.not_eq_false', Bool.not_eq_true, Bool.not_eq_false] at hb2
      refine stEnd (hK _ [(0, _), (1, _), (5, _), (6, _), (14, _)] _ _ rfl ?_)
      clear hK K
      refine W.condT rfl ?_
      refine W.skip ?_
      refine thenN ?_
      refine W.seq ?_
      refine W.block ?_
      refine W.sR [0, 1, 5, 6] fun K hK => ?_
      refine st rfl rfl (e_move rfl) ?_
      refine st rfl rfl (e_move rfl) ?_
      refine st rfl rfl (e_move rfl) ?_
      refine st rfl rfl (e_move rfl) ?_
      refine st rfl rfl (e_idxSK _ t22 t62 rfl rfl rfl (by first | omega | decide)) ?_
      refine st rfl rfl (e_idxAK _ t62 t3 rfl rfl rfl (by first | omega | decide)) ?_
      refine stN rfl (e_store1 t3 rfl rfl rfl (by repeat (first | exact look_same | assumption | refine look_ne (by omega) ?_ | refine look_keep (by assumption) (by omega) (by simp; try omega) ?_)) (by rw [markV_length (by omega)]; omega)) ?_
      refine stEnd (hK _ [(0, _), (1, _), (5, _), (6, _)] _ _ rfl ?_)
      clear hK K
      refine W.rR [0, 1, 5, 6] fun K hK => ?_
      refine st rfl rfl (e_move rfl) ?_
      refine st rfl rfl (e_add rfl rfl (inB _ (by omega))) ?_
      refine st rfl rfl (e_assign rfl) ?_
      refine stEnd (hK _ [(0, _), (1, _), (5, _), (6, _)] _ _ rfl ?_)
      clear hK K
      refine blockN ?_
      refine thenN ?_
      refine W.rR [1, 6, 0, 5] fun K hK => ?_
      refine st rfl rfl (e_move rfl) ?_
      refine st rfl rfl (e_add rfl rfl (inB _ (by omega))) ?_
      refine st rfl rfl (e_assign rfl) ?_
      refine stEnd (hK _ [(1, _), (6, _), (0, _), (5, _)] _ _ rfl ?_)
      clear hK K
      exact roundN (V' := [(1, _), (6, _)]) [1, 6, 0, 5] rfl (by omega) (by repeat (first | exact Keeps.refl _ _ _ | assumption | refine Keeps.trans ?_ (by assumption) (by omega) (by simp; try omega) | refine Keeps.set ?_ (by first | exact Or.inl (by omega) | (simp; done) | (simp; omega)) | refine Keeps.del ?_ (by first | exact Or.inl (by omega) | (simp; done) | (simp; omega)) | refine Keeps.delO2 ?_ (by omega))) _ (by omega) ⟨j + 1, (by simp <;> omega), rfl, (by first | omega | assumption | simp_all), (look_same.trans (congrArg some (congrArg (Blk.cells false) (by rw [show 0 + i * 3 + j * 1 = 3 * i + j by omega]; exact markV_set (by omega) (by simp <;> omega)))))⟩
    ·
      try simp only [decide_eq_true_eq, decide_eq_false_iff_not, Bool.not_eq_true', Bool.not_eq_false', Bool.not_eq_true, Bool.not_eq_false] at hb2
      refine stEnd (hK _ [(0, _), (1, _), (5, _), (6, _), (14, _)] _ _ rfl ?_)
      clear hK K
      refine W.condF rfl ?_
      refine W.exit ?_
      refine thenE ?_
      refine thenE ?_
      refine blockX ?_
      refine blockN ?_
      refine thenN ?_
      refine W.rR [1, 5, 0] fun K hK => ?_
      refine st rfl rfl (e_move rfl) ?_
      refine st rfl rfl (e_add rfl rfl (inB _ (by omega))) ?_
      refine st rfl rfl (e_assign rfl) ?_
      refine stEnd (hK _ [(1, _), (5, _), (0, _)] _ _ rfl ?_)
      clear hK K
      exact roundN (V' := [(1, _), (5, _)]) [1, 5, 0] rfl (by omega) (by repeat (first | exact Keeps.refl _ _ _ | assumption | refine Keeps.trans ?_ (by assumption) (by omega) (by simp; try omega) | refine Keeps.set ?_ (by first | exact Or.inl (by omega) | (simp; done) | (simp; omega)) | refine Keeps.del ?_ (by first | exact Or.inl (by omega) | (simp; done) | (simp; omega)) | refine Keeps.delO2 ?_ (by omega))) _ (by omega) ⟨i + 1, (by simp <;> omega), rfl, (by first | omega | assumption | simp_all), (by cases (show j = 3 from by omega); exact hG2)⟩
  ·
    try simp only [decide_eq_true_eq, decide_eq_false_iff_not, Bool.not_eq_true', Bool.not_eq_false', Bool.not_eq_true, Bool.not_eq_false] at hb1
    refine stEnd (hK _ [(0, _), (1, _), (5, _), (10, _)] _ _ rfl ?_)
    clear hK K
    refine W.condF rfl ?_
    refine W.exit ?_
    refine thenE ?_
    refine thenE ?_
    refine blockX ?_
    refine thenN ?_
    refine W.sR [4] fun K hK => ?_
    refine st rfl rfl (e_move rfl) ?_
    refine st rfl rfl (e_assign rfl) ?_
    refine stEnd (hK _ [(4, _)] _ _ rfl ?_)
    clear hK K
    refine W.ret ?_
    refine ⟨.inr rfl, Ends.vU (by omega) (by repeat (first | exact OldBut.self | assumption | refine OldBut.set ?_ (by first | exact Or.inl (by omega) | (simp; done) | (simp; omega)) | refine OldBut.keep (by assumption) ?_ (by omega) (by simp; try omega))) hfresh (by repeat (first | exact look_same | assumption | refine look_ne (by omega) ?_ | refine look_keep (by assumption) (by omega) (by simp; try omega) ?_)) ?_ (markV_plain hp) (by first | rfl | (simp [ltT, ltA, ltC, ltV]; try omega)) (res1 (resT rfl) rfl) ?_⟩
    · (obtain rfl : i = m := by omega); rfl
    · (obtain rfl : i = m := by omega); rfl
theorem laws_markHeap_s (X Y Z : Int) (b m : Nat) (vs : List Value) (k : Int) (H : Heap) (n : Nat) (hb : H b = some (.cells false vs)) (hl : vs.length = 3 * m) (hp : vs.all plainA = true) (hk : (0 ≤ k ∧ k ≤ 1099511627776) ∧ m ≤ 1073741824) : Fn Try.prog 21 [.agg #[.int .i64 X, .int .i64 Y, .int .i64 Z, .slice (some ⟨b, 0, none⟩) m 3], .int .i64 k] H n (.int .i64 (k + 3 * (m : Int))) (H.set b (.cells false (markV k (3 * m) vs))) (n) := by
  refine Fn.intro' Try.func21 rfl (by kernel_rfl) Try.ntmps21 (by simp) (by omega) fun hfresh => ?_
  have lt_hb := lt_fresh hfresh hb
  show W _ _ _ ⟨[(0, _), (1, _)], _, _⟩ _
  refine W.sR [1, 2] fun K hK => ?_
  refine st rfl rfl (e_boxA rfl) ?_
  refine st rfl rfl (e_assign rfl) ?_
  refine stEnd (hK _ [(1, _), (2, _)] _ _ rfl ?_)
  clear hK K
  refine W.sR [1] fun K hK => ?_
  refine st rfl rfl (e_fieldAddr t28 t22 rfl rfl) ?_
  refine st rfl rfl (e_load1 t22 rfl rfl (by repeat (first | exact look_same | assumption | refine look_ne (by omega) ?_)) rfl) ?_
  refine st rfl rfl (e_move rfl) ?_
  refine stC rfl rfl rfl (laws_markIntA3S_s _ _ _ _ _ _ (by repeat (first | exact look_same | assumption | refine look_ne (by omega) ?_)) (by first | (rw [flat_length]; omega) | simp | omega) (by first | assumption | exact ints_plain _ | exact flat_plain _) (by omega)) ?_
  refine st rfl rfl (e_assign rfl) ?_
  refine stEnd (hK _ [(1, _)] _ _ rfl ?_)
  clear hK K
  refine W.sR [4] fun K hK => ?_
  refine st rfl rfl (e_move rfl) ?_
  refine st rfl rfl (e_assign rfl) ?_
  refine stEnd (hK _ [(4, _)] _ _ rfl ?_)
  clear hK K
  refine W.ret ?_
  refine ⟨.inr rfl, Ends.vU (by omega) (by repeat (first | exact OldBut.self | assumption | refine OldBut.set ?_ (by first | exact Or.inl (by omega) | (simp; done) | (simp; omega)) | refine OldBut.keep (by assumption) ?_ (by omega) (by simp; try omega))) hfresh (by repeat (first | exact look_same | assumption | refine look_ne (by omega) ?_)) ?_ (markV_plain hp) (by first | rfl | (simp [ltT, ltA, ltC, ltV]; try omega)) (res1 (resT rfl) rfl) ?_⟩
  · rfl
  · rfl
theorem laws_markIntA5S_s (b m : Nat) (vs : List Value) (k : Int) (H : Heap) (n : Nat) (hb : H b = some (.cells false vs)) (hl : vs.length = 5 * m) (hp : vs.all plainA = true) (hk : (0 ≤ k ∧ k ≤ 1099511627776) ∧ m ≤ 1073741824) : Fn Try.prog 22 [.slice (some ⟨b, 0, none⟩) m 5, .int .i64 k] H n (.int .i64 (k + 5 * (m : Int))) (H.set b (.cells false (markV k (5 * m) vs))) (n) := by
  refine Fn.intro' Try.func22 rfl (by kernel_rfl) Try.ntmps22 (by simp) (by omega) fun hfresh => ?_
  have lt_hb := lt_fresh hfresh hb
  show W _ _ _ ⟨[(0, _), (1, _)], _, _⟩ _
  refine W.sR [0, 1] fun K hK => ?_
  refine st rfl rfl (e_assign rfl) ?_
  refine stEnd (hK _ [(0, _), (1, _)] _ _ rfl ?_)
  clear hK K
  refine W.seq ?_
  refine W.sR [0, 1, 5] fun K hK => ?_
  refine st rfl rfl (e_assign rfl) ?_
  refine stEnd (hK _ [(0, _), (1, _), (5, _)] _ _ rfl ?_)
  clear hK K
  refine W.block ?_
  refine W.ord [1, 5, 0] (ts' := [(1, _), (5, _)] ++ [(0, _)]) rfl ?_
  refine W.loopC [(1, _), (5, _)] [b] (fun κ V G μ => ∃ i : Nat, V = [(1, .int .i64 (k + 5 * (i : Int))), (5, .int .i64 (i : Nat))] ∧ κ = m - i ∧ (i ≤ m) ∧ (G b = some (.cells false (markV k (5 * i) vs)))) _ ⟨0, (by simp), rfl, (by first | omega | assumption | rfl | simp_all), (by rw [Nat.mul_zero, markV_zero]; exact (by repeat (first | exact look_same | assumption | refine look_ne (by omega) ?_ | refine look_keep (by assumption) (by omega) (by simp; try omega) ?_)))⟩ fun κ V G μ hinv hμ hkeep hfr => ?_
  obtain ⟨i, rfl, rfl, hi, hG⟩ := hinv
  refine W.seq ?_
  refine W.sR [0, 1, 5, 10] fun K hK => ?_
  refine st rfl rfl (e_move rfl) ?_
  refine st rfl rfl (e_move rfl) ?_
  refine st rfl rfl (e_len t32 rfl) ?_
  refine st rfl rfl (e_lss rfl rfl) ?_
  refine stB (fun hb1 => ?_) (fun hb1 => ?_)
  ·
    try simp only [decide_eq_true_eq, decide_eq_false_iff_not, Bool.not_eq_true', Bool.not_eq_false', Bool.not_eq_true, Bool.not_eq_false] at hb1
    refine stEnd (hK _ [(0, _), (1, _), (5, _), (10, _)] _ _ rfl ?_)
    clear hK K
    refine W.condT rfl ?_
    refine W.skip ?_
    refine thenN ?_
    refine W.seq ?_
    refine W.block ?_
    refine W.sR [0, 1, 5, 6] fun K hK => ?_
    refine st rfl rfl (e_assign rfl) ?_
    refine stEnd (hK _ [(0, _), (1, _), (5, _), (6, _)] _ _ rfl ?_)
    clear hK K
    refine W.block ?_
    refine W.ord [1, 6, 0, 5] (ts' := [(1, _), (6, _)] ++ [(0, _), (5, _)]) rfl ?_
    refine W.loopC [(1, _), (6, _)] [b] (fun κ V G μ => ∃ j : Nat, V = [(1, .int .i64 (k + 5 * (i : Int) + (j : Int))), (6, .int .i64 (j : Nat))] ∧ κ = 5 - j ∧ (j ≤ 5) ∧ (G b = some (.cells false (markV k (5 * i + j) vs)))) _ ⟨0, (by simp), rfl, (by first | omega | assumption | rfl | simp_all), (by exact hG)⟩ fun κ V G μ hinv hμ hkeep hfr => ?_
    obtain ⟨j, rfl, rfl, hj, hG2⟩ := hinv
    refine W.seq ?_
    refine W.sR [0, 1, 5, 6, 14] fun K hK => ?_
    refine st rfl rfl (e_move rfl) ?_
    refine st rfl rfl (e_lss rfl rfl) ?_
    refine stB (fun hb2 => ?_) (fun hb2 => ?_)
    ·
      try simp only [decide_eq_true_eq, decide_eq_false_iff_not, Bool.not_eq_true', Bool.not_eq_false', Bool.not_eq_true, Bool.not_eq_false] at hb2
      refine stEnd (hK _ [(0, _), (1, _), (5, _), (6, _), (14, _)] _ _ rfl ?_)
      clear hK K
      refine W.condT rfl ?_
      refine W.skip ?_
      refine thenN ?_
      refine W.seq ?_
      refine W.block ?_
      refine W.sR [0, 1, 5, 6] fun K hK => ?_
      refine st rfl rfl (e_move rfl) ?_
      refine st rfl rfl (e_move rfl) ?_
      refine st rfl rfl (e_move rfl) ?_
      refine st rfl rfl (e_move rfl) ?_
      refine st rfl rfl (e_idxSK _ t32 t46 rfl rfl rfl (by first | omega | decide)) ?_
      refine st rfl rfl (e_idxAK _ t46 t3 rfl rfl rfl (by first | omega | decide)) ?_
      refine stN rfl (e_store1 t3 rfl rfl rfl (by repeat (first | exact look_same | assumption | refine look_ne (by omega) ?_ | refine look_keep (by assumption) (by omega) (by simp; try omega) ?_)) (by rw [markV_length (by omega)]; omega)) ?_
      refine stEnd (hK _ [(0, _), (1, _), (5, _), (6, _)] _ _ rfl ?_)
      clear hK K
      refine W.rR [0, 1, 5, 6] fun K hK => ?_
      refine st rfl rfl (e_move rfl) ?_
      refine st rfl rfl (e_add rfl rfl (inB _ (by omega))) ?_
      refine st rfl rfl (e_assign rfl) ?_
      refine stEnd (hK _ [(0, _), (1, _), (5, _), (6, _)] _ _ rfl ?_)
      clear hK K
      refine blockN ?_
      refine thenN ?_
      refine W.rR [1, 6, 0, 5] fun K hK => ?_
      refine st rfl rfl (e_move rfl) ?_
      refine st rfl rfl (e_add rfl rfl (inB _ (by omega))) ?_
      refine st rfl rfl (e_assign rfl) ?_
      refine stEnd (hK _ [(1, _), (6, _), (0, _), (5, _)] _ _ rfl ?_)
      clear hK K
      exact roundN (V' := [(1, _), (6, _)]) [1, 6, 0, 5] rfl (by omega) (by repeat (first | exact Keeps.refl _ _ _ | assumption | refine Keeps.trans ?_ (by assumption) (by omega) (by simp; try omega) | refine Keeps.set ?_ (by first | exact Or.inl (by omega) | (simp; done) | (simp; omega)) | refine Keeps.del ?_ (by first | exact Or.inl (by omega) | (simp; done) | (simp; omega)) | refine Keeps.delO2 ?_ (by omega))) _ (by omega) ⟨j + 1, (by simp <;> omega), rfl, (by first | omega | assumption | simp_all), (look_same.trans (congrArg some (congrArg (Blk.cells false) (by rw [show 0 + i * 5 + j * 1 = 5 * i + j by omega]; exact markV_set (by omega) (by simp <;> omega)))))⟩
    ·
      try simp only [decide_eq_true_eq, decide_eq_false_iff_not, Bool.not_eq_true', Bool.not_eq_false', Bool.not_eq_true, Bool.not_eq_false] at hb2
      refine stEnd (hK _ [(0, _), (1, _), (5, _), (6, _), (14, _)] _ _ rfl ?_)
      clear hK K
      refine W.condF rfl ?_
      refine W.exit ?_
      refine thenE ?_
      refine thenE ?_
      refine blockX ?_
      refine blockN ?_
      refine thenN ?_
      refine W.rR [1, 5, 0] fun K hK => ?_
      refine st rfl rfl (e_move rfl) ?_
      refine st rfl rfl (e_add rfl rfl (inB _ (by omega))) ?_
      refine st rfl rfl (e_assign rfl) ?_
      refine stEnd (hK _ [(1, _), (5, _), (0, _)] _ _ rfl ?_)
      clear hK K
      exact roundN (V' := [(1, _), (5, _)]) [1, 5, 0] rfl (by omega) (by repeat (first | exact Keeps.refl _ _ _ | assumption | refine Keeps.trans ?_ (by assumption) (by omega) (by simp; try omega) | refine Keeps.set ?_ (by first | exact Or.inl (by omega) | (simp; done) | (simp; omega)) | refine Keeps.del ?_ (by first | exact Or.inl (by omega) | (simp; done) | (simp; omega)) | refine Keeps.delO2 ?_ (by omega))) _ (by omega) ⟨i + 1, (by simp <;> omega), rfl, (by first | omega | assumption | simp_all), (by cases (show j = 5 from by omega); exact hG2)⟩
  ·
    try simp only [decide_eq_true_eq, decide_eq_false_iff_not, Bool.not_eq_true', Bool.not_eq_false', Bool.not_eq_true, Bool.not_eq_false] at hb1
    refine stEnd (hK _ [(0, _), (1, _), (5, _), (10, _)] _ _ rfl ?_)
    clear hK K
    refine W.condF rfl ?_
    refine W.exit ?_
    refine thenE ?_
    refine thenE ?_
    refine blockX ?_
    refine thenN ?_
    refine W.sR [4] fun K hK => ?_
    refine st rfl rfl (e_move rfl) ?_
    refine st rfl rfl (e_assign rfl) ?_
    refine stEnd (hK _ [(4, _)] _ _ rfl ?_)
    clear hK K
    refine W.ret ?_
    refine ⟨.inr rfl, Ends.vU (by omega) (by repeat (first | exact OldBut.self | assumption | refine OldBut.set ?_ (by first | exact Or.inl (by omega) | (simp; done) | (simp; omega)) | refine OldBut.keep (by assumption) ?_ (by omega) (by simp; try omega))) hfresh (by repeat (first | exact look_same | assumption | refine look_ne (by omega) ?_ | refine look_keep (by assumption) (by omega) (by simp; try omega) ?_)) ?_ (markV_plain hp) (by first | rfl | (simp [ltT, ltA, ltC, ltV]; try omega)) (res1 (resT rfl) rfl) ?_⟩
    · (obtain rfl : i = m := by omega); rfl
    · (obtain rfl : i = m := by omega); rfl
theorem laws_heldIntA5S_s (b m : Nat) (ro : Bool) (k : Int) (H : Heap) (n : Nat) (hb : H b = some (.cells ro (ints (upto k (5 * m))))) (hk : (0 ≤ k ∧ k ≤ 1099511627776) ∧ m ≤ 1073741824) : Fn Try.prog 23 [.slice (some ⟨b, 0, none⟩) m 5, .int .i64 k] H n (.int .i64 (k + 5 * (m : Int))) (H) (n) := by
  refine Fn.intro' Try.func23 rfl (by kernel_rfl) Try.ntmps23 (by simp) (by omega) fun hfresh => ?_
  have lt_hb := lt_fresh hfresh hb
  show W _ _ _ ⟨[(0, _), (1, _)], _, _⟩ _
  refine W.sR [0, 1] fun K hK => ?_
  refine st rfl rfl (e_assign rfl) ?_
  refine stEnd (hK _ [(0, _), (1, _)] _ _ rfl ?_)
  clear hK K
  refine W.seq ?_
  refine W.sR [0, 1, 5] fun K hK => ?_
  refine st rfl rfl (e_assign rfl) ?_
  refine stEnd (hK _ [(0, _), (1, _), (5, _)] _ _ rfl ?_)
  clear hK K
  refine W.block ?_
  refine W.ord [1, 5, 0] (ts' := [(1, _), (5, _)] ++ [(0, _)]) rfl ?_
  refine W.loopC [(1, _), (5, _)] [] (fun κ V G μ => ∃ i : Nat, V = [(1, .int .i64 (k + 5 * (i : Int))), (5, .int .i64 (i : Nat))] ∧ κ = m - i ∧ (i ≤ m)) _ ⟨0, (by simp), rfl, (by first | omega | assumption | rfl | simp_all)⟩ fun κ V G μ hinv hμ hkeep hfr => ?_
  obtain ⟨i, rfl, rfl, hi⟩ := hinv
  refine W.seq ?_
  refine W.sR [0, 1, 5, 10] fun K hK => ?_
  refine st rfl rfl (e_move rfl) ?_
  refine st rfl rfl (e_move rfl) ?_
  refine st rfl rfl (e_len t32 rfl) ?_
  refine st rfl rfl (e_lss rfl rfl) ?_
  refine stB (fun hb1 => ?_) (fun hb1 => ?_)
  ·
    try simp only [decide_eq_true_eq, decide_eq_false_iff_not, Bool.not_eq_true', Bool.not_eq_false', Bool.not_eq_true, Bool.not_eq_false] at hb1
    refine stEnd (hK _ [(0, _), (1, _), (5, _), (10, _)] _ _ rfl ?_)
    clear hK K
    refine W.condT rfl ?_
    refine W.skip ?_
    refine thenN ?_
    refine W.seq ?_
    refine W.block ?_
    refine W.sR [0, 1, 5, 6] fun K hK => ?_
    refine st rfl rfl (e_assign rfl) ?_
    refine stEnd (hK _ [(0, _), (1, _), (5, _), (6, _)] _ _ rfl ?_)
    clear hK K
    refine W.block ?_
    refine W.ord [1, 6, 0, 5] (ts' := [(1, _), (6, _)] ++ [(0, _), (5, _)]) rfl ?_
    refine W.loopC [(1, _), (6, _)] [] (fun κ V G μ => ∃ j : Nat, V = [(1, .int .i64 (k + 5 * (i : Int) + (j : Int))), (6, .int .i64 (j : Nat))] ∧ κ = 5 - j ∧ (j ≤ 5)) _ ⟨0, (by simp), rfl, (by first | omega | assumption | rfl | simp_all)⟩ fun κ V G μ hinv hμ hkeep hfr => ?_
    obtain ⟨j, rfl, rfl, hj⟩ := hinv
    refine W.seq ?_
    refine W.sR [0, 1, 5, 6, 14] fun K hK => ?_
    refine st rfl rfl (e_move rfl) ?_
    refine st rfl rfl (e_lss rfl rfl) ?_
    refine stB (fun hb2 => ?_) (fun hb2 => ?_)
    ·
      try simp only [decide_eq_true_eq, decide_eq_false_iff_not, Bool.not_eq_true', Bool.not_eq_false', Bool.not_eq_true, Bool.not_eq_false] at hb2
      refine stEnd (hK _ [(0, _), (1, _), (5, _), (6, _), (14, _)] _ _ rfl ?_)
      clear hK K
      refine W.condT rfl ?_
      refine W.skip ?_
      refine thenN ?_
      refine W.seq ?_
      refine W.block ?_
      refine W.seq ?_
      have hua := upto_at (k := k) (m := 5 * m) (i := i * 5 + j * 1) (by omega)
      refine W.sR [0, 1, 5, 6, 24] fun K hK => ?_
      refine st rfl rfl (e_move rfl) ?_
      refine st rfl rfl (e_move rfl) ?_
      refine st rfl rfl (e_move rfl) ?_
      refine st rfl rfl (e_idxSK _ t32 t46 rfl rfl rfl (by first | omega | decide)) ?_
      refine st rfl rfl (e_idxAK _ t46 t3 rfl rfl rfl (by first | omega | decide)) ?_
      refine st rfl rfl (e_load1 t3 rfl rfl (by repeat (first | exact look_same | assumption | refine look_ne (by omega) ?_ | refine look_keep (by assumption) (by omega) (by simp; try omega) ?_)) (show (ints (upto k (5 * m)))[0 + i * 5 + j * 1]? = some (.int .i64 (at1 (upto k (5 * m)) (i * 5 + j * 1))) from by rw [show 0 + i * 5 + j * 1 = 0 + (i * 5 + j * 1) * 1 by omega]; exact ints_at (by rw [upto_length]; omega))) ?_
      refine st rfl rfl (e_move rfl) ?_
      refine st rfl rfl (e_neq rfl rfl) ?_
      refine stB (fun hz => ?_) (fun hz => ?_)
      ·
        (exfalso; rw [hua] at hz; revert hz; simp; try omega)
      ·
        try simp only [decide_eq_true_eq, decide_eq_false_iff_not, Bool.not_eq_true', Bool.not_eq_false', Bool.not_eq_true, Bool.not_eq_false] at hz
        refine stEnd (hK _ [(0, _), (1, _), (5, _), (6, _), (24, _)] _ _ rfl ?_)
        clear hK K
        refine W.condF rfl ?_
        refine W.skip ?_
        refine thenN ?_
        refine W.rR [0, 1, 5, 6] fun K hK => ?_
        refine st rfl rfl (e_move rfl) ?_
        refine st rfl rfl (e_add rfl rfl (inB _ (by omega))) ?_
        refine st rfl rfl (e_assign rfl) ?_
        refine stEnd (hK _ [(0, _), (1, _), (5, _), (6, _)] _ _ rfl ?_)
        clear hK K
        refine blockN ?_
        refine thenN ?_
        refine W.rR [1, 6, 0, 5] fun K hK => ?_
        refine st rfl rfl (e_move rfl) ?_
        refine st rfl rfl (e_add rfl rfl (inB _ (by omega))) ?_
        refine st rfl rfl (e_assign rfl) ?_
        refine stEnd (hK _ [(1, _), (6, _), (0, _), (5, _)] _ _ rfl ?_)
        clear hK K
        exact roundN (V' := [(1, _), (6, _)]) [1, 6, 0, 5] rfl (by omega) (by repeat (first | exact Keeps.refl _ _ _ | assumption | refine Keeps.trans ?_ (by assumption) (by omega) (by simp; try omega) | refine Keeps.set ?_ (by first | exact Or.inl (by omega) | (simp; done) | (simp; omega)) | refine Keeps.del ?_ (by first | exact Or.inl (by omega) | (simp; done) | (simp; omega)) | refine Keeps.delO2 ?_ (by omega))) _ (by omega) ⟨j + 1, (by simp <;> omega), rfl, (by first | omega | assumption | simp_all)⟩
    ·
      try simp only [decide_eq_true_eq, decide_eq_false_iff_not, Bool.not_eq_true', Bool.not_eq_false', Bool.not_eq_true, Bool.not_eq_false] at hb2
      refine stEnd (hK _ [(0, _), (1, _), (5, _), (6, _), (14, _)] _ _ rfl ?_)
      clear hK K
      refine W.condF rfl ?_
      refine W.exit ?_
      refine thenE ?_
      refine thenE ?_
      refine blockX ?_
      refine blockN ?_
      refine thenN ?_
      refine W.rR [1, 5, 0] fun K hK => ?_
      refine st rfl rfl (e_move rfl) ?_
      refine st rfl rfl (e_add rfl rfl (inB _ (by omega))) ?_
      refine st rfl rfl (e_assign rfl) ?_
      refine stEnd (hK _ [(1, _), (5, _), (0, _)] _ _ rfl ?_)
      clear hK K
      exact roundN (V' := [(1, _), (5, _)]) [1, 5, 0] rfl (by omega) (by repeat (first | exact Keeps.refl _ _ _ | assumption | refine Keeps.trans ?_ (by assumption) (by omega) (by simp; try omega) | refine Keeps.set ?_ (by first | exact Or.inl (by omega) | (simp; done) | (simp; omega)) | refine Keeps.del ?_ (by first | exact Or.inl (by omega) | (simp; done) | (simp; omega)) | refine Keeps.delO2 ?_ (by omega))) _ (by omega) ⟨i + 1, (by simp <;> omega), rfl, (by first | omega | assumption | simp_all)⟩
  ·
    try simp only [decide_eq_true_eq, decide_eq_false_iff_not, Bool.not_eq_true', Bool.not_eq_false', Bool.not_eq_true, Bool.not_eq_false] at hb1
    refine stEnd (hK _ [(0, _), (1, _), (5, _), (10, _)] _ _ rfl ?_)
    clear hK K
    refine W.condF rfl ?_
    refine W.exit ?_
    refine thenE ?_
    refine thenE ?_
    refine blockX ?_
    refine thenN ?_
    refine W.sR [4] fun K hK => ?_
    refine st rfl rfl (e_move rfl) ?_
    refine st rfl rfl (e_assign rfl) ?_
    refine stEnd (hK _ [(4, _)] _ _ rfl ?_)
    clear hK K
    refine W.ret ?_
    refine ⟨.inr rfl, Ends.v0 (by repeat (first | exact self_old | assumption | refine set_old ?_ (by omega) | refine keep_old (by assumption) ?_ (by omega) (by simp; try omega))) hfresh (by first | rfl | (simp [ltT, ltA, ltC, ltV]; try omega)) (res1 (resT rfl) rfl) ?_⟩
    (obtain rfl : i = m := by omega); rfl
set_option maxHeartbeats 1600000 in
theorem laws_FnExactSwitchesOf_ok (X Y Z : Int) (sv : Value) (cs : List C) (r : Nat) (p q : Nat) (H : Heap) (n : Nat) (hr : RowC H r sv cs) (hrn : r ≤ n) (hlen : cs.length ≤ 1048576) (hh : isHeap X Y Z cs = true) (hp : p < 3) (hq : q < 3) (hpq : p ≠ q) : Fn Try.prog 4 [.agg #[.int .i64 X, .int .i64 Y, .int .i64 Z, sv], .int .i64 (p : Nat), .int .i64 (q : Nat)] H n (.bool true) (H) (n) := by
  refine Fn.intro' Try.func4 rfl (by kernel_rfl) Try.ntmps4 (by simp) (by omega) fun hfresh => ?_
  obtain ⟨sp0, se0, rfl⟩ := hr.form
  have hv := valid_of hh
  have hX := hv.box
  have hvl := vol_le hX
  have hsl := swA_len (X := X) (Y := Y) (Z := Z) (cs := cs) (p := p) (q := q) (vol X Y Z)
  have hswl : (swAll X Y Z cs p q).length ≤ 1024 := (by show (swA X Y Z cs p q (vol X Y Z)).length ≤ 1024; omega)
  show W _ _ _ ⟨[(0, _), (1, _), (2, _)], _, _⟩ _
  refine W.sR [1, 2, 3] fun K hK => ?_
  refine st rfl rfl (e_boxA rfl) ?_
  refine st rfl rfl (e_assign rfl) ?_
  refine stEnd (hK _ [(1, _), (2, _), (3, _)] _ _ rfl ?_)
  clear hK K
  refine W.sR [1, 2, 3, 7] fun K hK => ?_
  refine st rfl rfl (e_assign rfl) ?_
  refine stEnd (hK _ [(1, _), (2, _), (3, _), (7, _)] _ _ rfl ?_)
  clear hK K
  refine W.sR [1, 2, 3, 7] fun K hK => ?_
  refine st rfl rfl (e_loadA t24 rfl rfl (by repeat (first | exact look_same | assumption | refine look_ne (by omega) ?_)) rfl rfl) ?_
  refine st rfl rfl (e_move rfl) ?_
  refine stC rfl rfl rfl (laws_szHeap_s _ _ _ _ _ _ _ _ _ (by omega)) ?_
  rw [if_neg (by omega)]
  refine st rfl rfl (e_assign rfl) ?_
  refine stEnd (hK _ [(1, _), (2, _), (3, _), (7, _)] _ _ rfl ?_)
  clear hK K
  refine W.seq ?_
  refine W.sR [1, 2, 3, 22] fun K hK => ?_
  refine st rfl rfl (e_move rfl) ?_
  refine st rfl rfl (e_lss rfl rfl) ?_
  refine stB (fun hz => ?_) (fun hz => ?_)
  ·
    first | (have hz2 := of_decide_eq_true hz; omega) | (simp at hz; done) | (simp at hz; omega)
  ·
    try simp only [decide_eq_true_eq, decide_eq_false_iff_not, Bool.not_eq_true', Bool.not_eq_false', Bool.not_eq_true, Bool.not_eq_false] at hz
    refine stEnd (hK _ [(1, _), (2, _), (3, _), (22, _)] _ _ rfl ?_)
    clear hK K
    refine W.condF rfl ?_
    refine W.skip ?_
    refine thenN ?_
    refine W.sR [1, 2, 3, 8, 9] fun K hK => ?_
    refine st rfl rfl (e_loadA t24 rfl rfl (by repeat (first | exact look_same | assumption | refine look_ne (by omega) ?_)) rfl rfl) ?_
    refine stC rfl rfl rfl (laws_toHeap_s _ _ _ _ _ _ _ _ (RowC.keep hr (Nat.le_refl _) (by repeat (first | exact self_old | assumption | refine set_old ?_ (by omega)))) (by omega) (by omega)) ?_
    refine st rfl rfl (e_move rfl) ?_
    refine st rfl rfl (e_move rfl) ?_
    refine stC rfl rfl rfl (spec_SwitchesOf_ok_s _ _ _ _ _ _ _ _ _ _ (by repeat (first | exact look_same | assumption | refine look_ne (by omega) ?_)) (by omega) (by assumption) (by assumption) (by assumption) (by assumption)) ?_
    refine st rfl rfl (e_move rfl) ?_
    refine st rfl rfl (e_extract rfl rfl) ?_
    refine st rfl rfl (e_extract rfl rfl) ?_
    refine st rfl rfl (e_assign rfl) ?_
    refine st rfl rfl (e_assign rfl) ?_
    refine stEnd (hK _ [(1, _), (2, _), (3, _), (8, _), (9, _)] _ _ rfl ?_)
    clear hK K
    refine W.sR [1, 2, 3, 8, 9, 10] fun K hK => ?_
    refine st rfl rfl (e_loadA t24 rfl rfl (by repeat (first | exact look_same | assumption | refine look_ne (by omega) ?_)) rfl rfl) ?_
    refine stC rfl rfl rfl (laws_toHeap_s _ _ _ _ _ _ _ _ (RowC.keep hr (Nat.le_refl _) (by repeat (first | exact self_old | assumption | refine set_old ?_ (by omega)))) (by omega) (by omega)) ?_
    refine st rfl rfl (e_alloc t28 rfl) ?_
    refine stN rfl (e_storeA t28 rfl rfl (by repeat (first | exact look_same | assumption | refine look_ne (by omega) ?_)) rfl rfl rfl (by decide)) ?_
    refine stEnd (hK _ [(1, _), (2, _), (3, _), (8, _), (9, _), (10, _)] _ _ rfl ?_)
    clear hK K
    refine W.sR [1, 2, 3, 8, 9, 10, 11, 12] fun K hK => ?_
    refine st rfl rfl (e_loadA t28 rfl rfl (by repeat (first | exact look_same | assumption | refine look_ne (by omega) ?_)) rfl rfl) ?_
    refine st rfl rfl (e_move rfl) ?_
    refine st rfl rfl (e_move rfl) ?_
    refine stC rfl rfl rfl (impl_SwitchesOf_ok_s _ _ _ _ _ _ _ _ _ _ (by repeat (first | exact look_same | assumption | refine look_ne (by omega) ?_)) (by omega) (by assumption) (by assumption) (by assumption) (by assumption)) ?_
    refine st rfl rfl (e_move rfl) ?_
    refine st rfl rfl (e_extract rfl rfl) ?_
    refine st rfl rfl (e_extract rfl rfl) ?_
    refine st rfl rfl (e_assign rfl) ?_
    refine st rfl rfl (e_assign rfl) ?_
    refine stEnd (hK _ [(1, _), (2, _), (3, _), (8, _), (9, _), (10, _), (11, _), (12, _)] _ _ rfl ?_)
    clear hK K
    refine W.seq ?_
    refine W.sR [1, 2, 3, 8, 9, 10, 11, 12, 48] fun K hK => ?_
    refine st rfl rfl (e_move rfl) ?_
    refine st rfl rfl (e_move rfl) ?_
    refine stC rfl rfl rfl (laws_eqIntA5S_s _ _ _ _ _ _ _ _ (by repeat (first | exact look_same | assumption | refine look_ne (by omega) ?_)) (by repeat (first | exact look_same | assumption | refine look_ne (by omega) ?_)) (by first | exact z5_length _ | assumption) (by omega)) ?_
    refine st rfl rfl (e_not rfl) ?_
    refine st rfl rfl (e_move rfl) ?_
    refine st rfl rfl (e_move rfl) ?_
    refine st rfl rfl (e_move rfl) ?_
    refine st rfl rfl (e_neqB_same t4 rfl rfl) ?_
    refine st rfl rfl (e_pickF rfl rfl) ?_
    refine stEnd (hK _ [(1, _), (2, _), (3, _), (8, _), (9, _), (10, _), (11, _), (12, _), (48, _)] _ _ rfl ?_)
    clear hK K
    refine W.condF rfl ?_
    refine W.skip ?_
    refine thenN ?_
    refine W.seq ?_
    refine W.sD [1, 2, 3, 8, 9, 10, 11, 12, 53] [0, 0, 2, 7, 15] (by kernel_rfl) (by kernel_rfl) fun K hK => ?_
    refine dL rfl rfl rfl (by omega) (accB_ok rfl) (e_loadA t28 rfl rfl (by repeat (first | exact look_same | assumption | refine look_ne (by omega) ?_)) rfl rfl) ?_
    refine dL rfl rfl rfl (by omega) (accB_ok rfl) (e_loadA t24 rfl rfl (by repeat (first | exact look_same | assumption | refine look_ne (by omega) ?_)) rfl rfl) ?_
    refine dC1 rfl rfl rfl rfl (laws_toHeap_s _ _ _ _ _ _ _ _ (RowC.keep hr (Nat.le_refl _) (by repeat (first | exact self_old | assumption | refine set_old ?_ (by omega) | refine hide_old ?_ (by omega) (by first | exact List.not_mem_nil | (simp [hidden, Nat.testBit]; done) | (simp [hidden, Nat.testBit]; omega))))) (by omega) (by omega)) (by repeat (first | exact trivial | refine And.intro (Or.inl rfl) ?_ | refine And.intro (Or.inr trivial) ?_ | refine And.intro (Or.inr (And.intro (Or.inl (by omega)) (by first | (simp; done) | (simp; omega)))) ?_ | refine And.intro (Or.inr (And.intro (Or.inr (by omega)) (by first | (simp; done) | (simp; omega)))) ?_ | refine And.intro (Or.inr (by simp [compat]; try omega)) ?_)) (by first | exact List.not_mem_nil | (simp [hidden, Nat.testBit]; done) | (simp [hidden, Nat.testBit]; omega)) ?_
    refine dC rfl rfl rfl rfl (laws_eqHeap_s _ _ _ _ _ _ _ _ _ _ _ _ _ _ (by repeat (first | exact look_same | assumption | refine look_ne (by omega) ?_ | refine look_hide (by omega) (by first | exact List.not_mem_nil | (simp [hidden, Nat.testBit]; done) | (simp [hidden, Nat.testBit]; omega)) ?_)) (by repeat (first | exact look_same | assumption | refine look_ne (by omega) ?_ | refine look_hide (by omega) (by first | exact List.not_mem_nil | (simp [hidden, Nat.testBit]; done) | (simp [hidden, Nat.testBit]; omega)) ?_)) (by omega)) (accB_ok rfl) ?_
    rw [decide_eq_true (by simp)]
    refine dP rfl rfl rfl (e_not rfl) ?_
    refine dEnd (hK _ [(1, _), (2, _), (3, _), (8, _), (9, _), (10, _), (11, _), (12, _), (53, _)] _ _ rfl ?_)
    clear hK K
    refine W.condF rfl ?_
    refine W.skip ?_
    refine thenN ?_
    refine W.sR [1, 2, 3, 8, 9, 10, 11, 12, 13] fun K hK => ?_
    refine st rfl rfl (e_assign rfl) ?_
    refine stEnd (hK _ [(1, _), (2, _), (3, _), (8, _), (9, _), (10, _), (11, _), (12, _), (13, _)] _ _ rfl ?_)
    clear hK K
    refine W.sR [1, 2, 3, 8, 9, 11, 12, 13] fun K hK => ?_
    refine st rfl rfl (e_loadA t28 rfl rfl (by repeat (first | exact look_same | assumption | refine look_ne (by omega) ?_)) rfl rfl) ?_
    refine st rfl rfl (e_move rfl) ?_
    refine stC rfl rfl rfl (laws_markHeap_s _ _ _ _ _ _ _ _ _ (by repeat (first | exact look_same | assumption | refine look_ne (by omega) ?_)) (by first | (rw [flat_length]; omega) | simp | omega) (by first | assumption | exact ints_plain _ | exact flat_plain _) (by omega)) ?_
    rw [markV_flat]
    refine st rfl rfl (e_assign rfl) ?_
    refine stEnd (hK _ [(1, _), (2, _), (3, _), (8, _), (9, _), (11, _), (12, _), (13, _)] _ _ rfl ?_)
    clear hK K
    refine W.seq ?_
    refine W.sR [1, 2, 3, 8, 9, 11, 69] fun K hK => ?_
    refine st rfl rfl (e_move rfl) ?_
    refine st rfl rfl (e_lss rfl rfl) ?_
    refine st rfl rfl (e_move rfl) ?_
    refine stB (fun hb2 => ?_) (fun hb2 => ?_)
    ·
      try simp only [decide_eq_true_eq, decide_eq_false_iff_not, Bool.not_eq_true', Bool.not_eq_false', Bool.not_eq_true, Bool.not_eq_false] at hb2
      refine stS rfl rfl ?_
      refine stS rfl rfl ?_
      refine stS rfl rfl ?_
      refine stS rfl rfl ?_
      refine st rfl rfl (e_pickT rfl rfl) ?_
      refine st rfl rfl (e_move rfl) ?_
      refine stS rfl rfl ?_
      refine stS rfl rfl ?_
      refine stS rfl rfl ?_
      refine st rfl rfl (e_pickT rfl rfl) ?_
      refine stEnd (hK _ [(1, _), (2, _), (3, _), (8, _), (9, _), (11, _), (69, _)] _ _ rfl ?_)
      clear hK K
      refine W.condT rfl ?_
      refine W.sR [6] fun K hK => ?_
      refine st rfl rfl (e_assign rfl) ?_
      refine stEnd (hK _ [(6, _)] _ _ rfl ?_)
      clear hK K
      refine W.ret ?_
      refine thenR ?_
      refine ⟨.inr rfl, Ends.v0 (by repeat (first | exact self_old | assumption | refine set_old ?_ (by omega))) hfresh (by first | rfl | (simp [ltT, ltA, ltC, ltV]; try omega)) (res1 (resT rfl) rfl) ?_⟩
      first | rfl | (exfalso; omega)
    ·
      try simp only [decide_eq_true_eq, decide_eq_false_iff_not, Bool.not_eq_true', Bool.not_eq_false', Bool.not_eq_true, Bool.not_eq_false] at hb2
      refine st rfl rfl (e_move rfl) ?_
      refine st rfl rfl (e_move rfl) ?_
      refine stC rfl rfl rfl (laws_eqIntA5S_s _ _ _ _ _ _ _ _ (by repeat (first | exact look_same | assumption | refine look_ne (by omega) ?_)) (by repeat (first | exact look_same | assumption | refine look_ne (by omega) ?_)) (by first | exact z5_length _ | assumption) (by omega)) ?_
      refine st rfl rfl (e_not rfl) ?_
      refine st rfl rfl (e_pickF rfl rfl) ?_
      refine st rfl rfl (e_move rfl) ?_
      refine st rfl rfl (e_move rfl) ?_
      refine st rfl rfl (e_move rfl) ?_
      refine st rfl rfl (e_neqB_same t4 rfl rfl) ?_
      refine st rfl rfl (e_pickF rfl rfl) ?_
      refine stEnd (hK _ [(1, _), (2, _), (3, _), (8, _), (9, _), (11, _), (69, _)] _ _ rfl ?_)
      clear hK K
      refine W.condF rfl ?_
      refine W.skip ?_
      refine thenN ?_
      refine W.sR [1, 2, 3, 8, 9, 11, 14] fun K hK => ?_
      refine st rfl rfl (e_assign rfl) ?_
      refine stEnd (hK _ [(1, _), (2, _), (3, _), (8, _), (9, _), (11, _), (14, _)] _ _ rfl ?_)
      clear hK K
      refine W.sR [1, 2, 3, 8, 9, 11, 14] fun K hK => ?_
      refine st rfl rfl (e_move rfl) ?_
      refine st rfl rfl (e_move rfl) ?_
      refine stC rfl rfl rfl (laws_markIntA5S_s _ _ _ _ _ _ (by repeat (first | exact look_same | assumption | refine look_ne (by omega) ?_)) (by first | (rw [ints_length, z5_length]; omega) | omega) (by first | assumption | exact ints_plain _) (by omega)) ?_
      rw [markV_z5]
      refine st rfl rfl (e_assign rfl) ?_
      refine stEnd (hK _ [(1, _), (2, _), (3, _), (8, _), (9, _), (11, _), (14, _)] _ _ rfl ?_)
      clear hK K
      refine W.sR [1, 2, 3, 8, 9, 11, 14, 15] fun K hK => ?_
      refine st rfl rfl (e_assign rfl) ?_
      refine stEnd (hK _ [(1, _), (2, _), (3, _), (8, _), (9, _), (11, _), (14, _), (15, _)] _ _ rfl ?_)
      clear hK K
      refine W.sR [1, 2, 3, 8, 9, 11, 14, 15] fun K hK => ?_
      refine st rfl rfl (e_move rfl) ?_
      refine st rfl rfl (e_move rfl) ?_
      refine stC rfl rfl rfl (laws_heldIntA5S_s _ _ _ _ _ _ (by repeat (first | exact look_same | assumption | refine look_ne (by omega) ?_)) (by omega)) ?_
      refine st rfl rfl (e_assign rfl) ?_
      refine stEnd (hK _ [(1, _), (2, _), (3, _), (8, _), (9, _), (11, _), (14, _), (15, _)] _ _ rfl ?_)
      clear hK K
      refine W.seq ?_
      refine W.sR [1, 2, 3, 8, 9, 11, 14, 15, 77] fun K hK => ?_
      refine st rfl rfl (e_move rfl) ?_
      refine st rfl rfl (e_lss rfl rfl) ?_
      refine stB (fun hz => ?_) (fun hz => ?_)
      ·
        first | (have hz2 := of_decide_eq_true hz; omega) | (simp at hz; done) | (simp at hz; omega)
      ·
        try simp only [decide_eq_true_eq, decide_eq_false_iff_not, Bool.not_eq_true', Bool.not_eq_false', Bool.not_eq_true, Bool.not_eq_false] at hz
        refine stEnd (hK _ [(1, _), (2, _), (3, _), (8, _), (9, _), (11, _), (14, _), (15, _), (77, _)] _ _ rfl ?_)
        clear hK K
        refine W.condF rfl ?_
        refine W.skip ?_
        refine thenN ?_
        refine W.seq ?_
        refine W.sR [1, 2, 3, 8, 9, 11, 14, 80] fun K hK => ?_
        refine st rfl rfl (e_move rfl) ?_
        refine st rfl rfl (e_move rfl) ?_
        refine st rfl rfl (e_neq rfl rfl) ?_
        refine stB (fun hz => ?_) (fun hz => ?_)
        ·
          first | (have hz2 := of_decide_eq_true hz; omega) | (simp at hz; done) | (simp at hz; omega)
        ·
          try simp only [decide_eq_true_eq, decide_eq_false_iff_not, Bool.not_eq_true', Bool.not_eq_false', Bool.not_eq_true, Bool.not_eq_false] at hz
          refine stEnd (hK _ [(1, _), (2, _), (3, _), (8, _), (9, _), (11, _), (14, _), (80, _)] _ _ rfl ?_)
          clear hK K
          refine W.condF rfl ?_
          refine W.skip ?_
          refine thenN ?_
          refine W.sR [8, 9, 11, 14, 16, 17] fun K hK => ?_
          refine st rfl rfl (e_loadA t24 rfl rfl (by repeat (first | exact look_same | assumption | refine look_ne (by omega) ?_)) rfl rfl) ?_
          refine stC rfl rfl rfl (laws_toHeap_s _ _ _ _ _ _ _ _ (RowC.keep hr (Nat.le_refl _) (by repeat (first | exact self_old | assumption | refine set_old ?_ (by omega)))) (by omega) (by omega)) ?_
          refine st rfl rfl (e_move rfl) ?_
          refine st rfl rfl (e_move rfl) ?_
          refine stC rfl rfl rfl (impl_SwitchesOf_ok_s _ _ _ _ _ _ _ _ _ _ (by repeat (first | exact look_same | assumption | refine look_ne (by omega) ?_)) (by omega) (by assumption) (by assumption) (by assumption) (by assumption)) ?_
          refine st rfl rfl (e_move rfl) ?_
          refine st rfl rfl (e_extract rfl rfl) ?_
          refine st rfl rfl (e_extract rfl rfl) ?_
          refine st rfl rfl (e_assign rfl) ?_
          refine st rfl rfl (e_assign rfl) ?_
          refine stEnd (hK _ [(8, _), (9, _), (11, _), (14, _), (16, _), (17, _)] _ _ rfl ?_)
          clear hK K
          refine W.seq ?_
          refine W.sR [11, 14, 97] fun K hK => ?_
          refine st rfl rfl (e_move rfl) ?_
          refine st rfl rfl (e_move rfl) ?_
          refine stC rfl rfl rfl (laws_eqIntA5S_s _ _ _ _ _ _ _ _ (by repeat (first | exact look_same | assumption | refine look_ne (by omega) ?_)) (by repeat (first | exact look_same | assumption | refine look_ne (by omega) ?_)) (by first | exact z5_length _ | assumption) (by omega)) ?_
          refine st rfl rfl (e_not rfl) ?_
          refine st rfl rfl (e_move rfl) ?_
          refine st rfl rfl (e_move rfl) ?_
          refine st rfl rfl (e_move rfl) ?_
          refine st rfl rfl (e_neqB_same t4 rfl rfl) ?_
          refine st rfl rfl (e_pickF rfl rfl) ?_
          refine stEnd (hK _ [(11, _), (14, _), (97, _)] _ _ rfl ?_)
          clear hK K
          refine W.condF rfl ?_
          refine W.skip ?_
          refine thenN ?_
          refine W.sR [11, 14, 15] fun K hK => ?_
          refine st rfl rfl (e_assign rfl) ?_
          refine stEnd (hK _ [(11, _), (14, _), (15, _)] _ _ rfl ?_)
          clear hK K
          refine W.sR [14, 15] fun K hK => ?_
          refine st rfl rfl (e_move rfl) ?_
          refine st rfl rfl (e_move rfl) ?_
          refine stC rfl rfl rfl (laws_heldIntA5S_s _ _ _ _ _ _ (by repeat (first | exact look_same | assumption | refine look_ne (by omega) ?_)) (by omega)) ?_
          refine st rfl rfl (e_assign rfl) ?_
          refine stEnd (hK _ [(14, _), (15, _)] _ _ rfl ?_)
          clear hK K
          refine W.seq ?_
          refine W.sR [14, 15, 102] fun K hK => ?_
          refine st rfl rfl (e_move rfl) ?_
          refine st rfl rfl (e_lss rfl rfl) ?_
          refine stB (fun hz => ?_) (fun hz => ?_)
          ·
            first | (have hz2 := of_decide_eq_true hz; omega) | (simp at hz; done) | (simp at hz; omega)
          ·
            try simp only [decide_eq_true_eq, decide_eq_false_iff_not, Bool.not_eq_true', Bool.not_eq_false', Bool.not_eq_true, Bool.not_eq_false] at hz
            refine stEnd (hK _ [(14, _), (15, _), (102, _)] _ _ rfl ?_)
            clear hK K
            refine W.condF rfl ?_
            refine W.skip ?_
            refine thenN ?_
            refine W.seq ?_
            refine W.sR [105] fun K hK => ?_
            refine st rfl rfl (e_move rfl) ?_
            refine st rfl rfl (e_move rfl) ?_
            refine st rfl rfl (e_neq rfl rfl) ?_
            refine stB (fun hz => ?_) (fun hz => ?_)
            ·
              first | (have hz2 := of_decide_eq_true hz; omega) | (simp at hz; done) | (simp at hz; omega)
            ·
              try simp only [decide_eq_true_eq, decide_eq_false_iff_not, Bool.not_eq_true', Bool.not_eq_false', Bool.not_eq_true, Bool.not_eq_false] at hz
              refine stEnd (hK _ [(105, _)] _ _ rfl ?_)
              clear hK K
              refine W.condF rfl ?_
              refine W.skip ?_
              refine thenN ?_
              refine W.sR [6] fun K hK => ?_
              refine st rfl rfl (e_assign rfl) ?_
              refine stEnd (hK _ [(6, _)] _ _ rfl ?_)
              clear hK K
              refine W.ret ?_
              refine ⟨.inr rfl, Ends.v0 (by repeat (first | exact self_old | assumption | refine set_old ?_ (by omega))) hfresh (by first | rfl | (simp [ltT, ltA, ltC, ltV]; try omega)) (res1 (resT rfl) rfl) ?_⟩
              first | rfl | (exfalso; omega)
theorem spec_SwitchesOf_no_s (X Y Z : Int) (b : Nat) (ro : Bool) (cs : List C) (p q : Int) (H : Heap) (n : Nat) (hb : H b = some (.cells ro (flat cs))) (hlen : cs.length ≤ 1048576) (hno : (isHeap X Y Z cs && dirs2 p q) = false) : Fn Try.prog 18 [.agg #[.int .i64 X, .int .i64 Y, .int .i64 Z, .slice (some ⟨b, 0, none⟩) cs.length 3], .int .i64 p, .int .i64 q] H n (.tuple #[.slice (some ⟨n, 0, none⟩) 0 5, .bool false]) (H.set n (.cells false [])) (n + 1) := by
  refine Fn.intro' Try.func18 rfl (by kernel_rfl) Try.ntmps18 (by simp) (by omega) fun hfresh => ?_
  have lt_hb := lt_fresh hfresh hb
  show W _ _ _ ⟨[(0, _), (1, _), (2, _)], _, _⟩ _
  refine W.sR [1, 2, 3] fun K hK => ?_
  refine st rfl rfl (e_boxA rfl) ?_
  refine st rfl rfl (e_assign rfl) ?_
  refine st rfl rfl (e_assign rfl) ?_
  refine stEnd (hK _ [(1, _), (2, _), (3, _)] _ _ rfl ?_)
  clear hK K
  refine W.seq ?_
  refine W.sR [1, 2, 3, 12] fun K hK => ?_
  refine st rfl rfl (e_loadA t28 rfl rfl (by repeat (first | exact look_same | assumption | refine look_ne (by omega) ?_)) rfl rfl) ?_
  refine st rfl rfl (e_move rfl) ?_
  refine st rfl rfl (e_move rfl) ?_
  refine stC rfl rfl rfl (spec_l4Two_s _ _ _ _ _ _ _ _ _ _ (by repeat (first | exact look_same | assumption | refine look_ne (by omega) ?_)) (by omega)) ?_
  rw [hno]
  refine st rfl rfl (e_not rfl) ?_
  refine stEnd (hK _ [(1, _), (2, _), (3, _), (12, _)] _ _ rfl ?_)
  clear hK K
  refine W.condT rfl ?_
  refine W.sR [6, 7] fun K hK => ?_
  refine st rfl rfl (e_buildSlice rfl rfl (bsl32_0)) ?_
  refine st rfl rfl (e_assign rfl) ?_
  refine st rfl rfl (e_assign rfl) ?_
  refine stEnd (hK _ [(6, _), (7, _)] _ _ rfl ?_)
  clear hK K
  refine W.ret ?_
  refine thenR ?_
  refine ⟨.inr rfl, Ends.v1 (n + 1) (by omega) (by repeat (first | exact self_old | assumption | refine set_old ?_ (by omega))) hfresh (by repeat (first | exact look_same | assumption | refine look_ne (by omega) ?_)) ?_ rfl (by simp [ltT, ltA, ltC, ltV]; try omega) (res2 (resT rfl) (resT rfl) rfl rfl) ?_⟩
  · rfl
  · simp [renT, renV, renC, renA, one]
theorem impl_SwitchesOf_no_s (X Y Z : Int) (b : Nat) (ro : Bool) (cs : List C) (p q : Int) (H : Heap) (n : Nat) (hb : H b = some (.cells ro (flat cs))) (hlen : cs.length ≤ 1048576) (hno : (isHeap X Y Z cs && dirs2 p q) = false) : Fn Try.prog 19 [.agg #[.int .i64 X, .int .i64 Y, .int .i64 Z, .slice (some ⟨b, 0, none⟩) cs.length 3], .int .i64 p, .int .i64 q] H n (.tuple #[.slice none 0 0, .bool false]) (H) (n) := by
  refine Fn.intro' Try.func19 rfl (by kernel_rfl) Try.ntmps19 (by simp) (by omega) fun hfresh => ?_
  have lt_hb := lt_fresh hfresh hb
  show W _ _ _ ⟨[(0, _), (1, _), (2, _)], _, _⟩ _
  refine W.sR [1, 2, 3] fun K hK => ?_
  refine st rfl rfl (e_boxA rfl) ?_
  refine st rfl rfl (e_assign rfl) ?_
  refine st rfl rfl (e_assign rfl) ?_
  refine stEnd (hK _ [(1, _), (2, _), (3, _)] _ _ rfl ?_)
  clear hK K
  refine W.seq ?_
  refine W.sR [1, 2, 3, 16] fun K hK => ?_
  refine st rfl rfl (e_loadA t28 rfl rfl (by repeat (first | exact look_same | assumption | refine look_ne (by omega) ?_)) rfl rfl) ?_
  refine stC rfl rfl rfl (impl_IsHeap_s _ _ _ _ _ _ _ _ (by repeat (first | exact look_same | assumption | refine look_ne (by omega) ?_)) (by omega)) ?_
  refine st rfl rfl (e_not rfl) ?_
  refine st rfl rfl (e_move rfl) ?_
  refine stB (fun hh => ?_) (fun hh => ?_)
  ·
    try simp only [decide_eq_true_eq, decide_eq_false_iff_not, Bool.not_eq_true', Bool.not_eq_false', Bool.not_eq_true, Bool.not_eq_false] at hh
    refine stS rfl rfl ?_
    refine stS rfl rfl ?_
    refine stS rfl rfl ?_
    refine stS rfl rfl ?_
    refine st rfl rfl (e_pickT rfl rfl) ?_
    refine stEnd (hK _ [(1, _), (2, _), (3, _), (16, _)] _ _ rfl ?_)
    clear hK K
    refine W.condT rfl ?_
    refine W.sR [6, 7] fun K hK => ?_
    refine st rfl rfl (e_assign rfl) ?_
    refine st rfl rfl (e_assign rfl) ?_
    refine stEnd (hK _ [(6, _), (7, _)] _ _ rfl ?_)
    clear hK K
    refine W.ret ?_
    refine thenR ?_
    refine ⟨.inr rfl, Ends.v0 (by repeat (first | exact self_old | assumption | refine set_old ?_ (by omega))) hfresh (by first | rfl | (simp [ltT, ltA, ltC, ltV]; try omega)) (res2 (resT rfl) (resT rfl) rfl rfl) ?_⟩
    rfl
  ·
    try simp only [decide_eq_true_eq, decide_eq_false_iff_not, Bool.not_eq_true', Bool.not_eq_false', Bool.not_eq_true, Bool.not_eq_false] at hh
    refine st rfl rfl (e_move rfl) ?_
    refine st rfl rfl (e_move rfl) ?_
    refine stC rfl rfl rfl (impl_areDirections_s _ _ _ _ ) ?_
    refine st rfl rfl (e_not rfl) ?_
    refine st rfl rfl (e_pickF rfl rfl) ?_
    refine stB (fun hz => ?_) (fun hz => ?_)
    ·
      try simp only [decide_eq_true_eq, decide_eq_false_iff_not, Bool.not_eq_true', Bool.not_eq_false', Bool.not_eq_true, Bool.not_eq_false] at hz
      refine stEnd (hK _ [(1, _), (2, _), (3, _), (16, _)] _ _ rfl ?_)
      clear hK K
      refine W.condT rfl ?_
      refine W.sR [6, 7] fun K hK => ?_
      refine st rfl rfl (e_assign rfl) ?_
      refine st rfl rfl (e_assign rfl) ?_
      refine stEnd (hK _ [(6, _), (7, _)] _ _ rfl ?_)
      clear hK K
      refine W.ret ?_
      refine thenR ?_
      refine ⟨.inr rfl, Ends.v0 (by repeat (first | exact self_old | assumption | refine set_old ?_ (by omega))) hfresh (by first | rfl | (simp [ltT, ltA, ltC, ltV]; try omega)) (res2 (resT rfl) (resT rfl) rfl rfl) ?_⟩
      rfl
    ·
      simp_all
theorem laws_eqIntA5S_nil_s (c : Nat) (H : Heap) (n : Nat) : Fn Try.prog 20 [.slice none 0 0, .slice (some ⟨c, 0, none⟩) 0 5] H n (.bool true) (H) (n) := by
  refine Fn.intro' Try.func20 rfl (by kernel_rfl) Try.ntmps20 (by simp) (by omega) fun hfresh => ?_
  show W _ _ _ ⟨[(0, _), (1, _)], _, _⟩ _
  refine W.sR [0, 1] fun K hK => ?_
  refine st rfl rfl (e_assign rfl) ?_
  refine stEnd (hK _ [(0, _), (1, _)] _ _ rfl ?_)
  clear hK K
  refine W.seq ?_
  refine W.sR [0, 1, 10] fun K hK => ?_
  refine st rfl rfl (e_move rfl) ?_
  refine st rfl rfl (e_len t32 rfl) ?_
  refine st rfl rfl (e_move rfl) ?_
  refine st rfl rfl (e_len t32 rfl) ?_
  refine st rfl rfl (e_neq rfl rfl) ?_
  refine stB (fun hz => ?_) (fun hz => ?_)
  ·
    exact absurd hz (by simp)
  ·
    try simp only [decide_eq_true_eq, decide_eq_false_iff_not, Bool.not_eq_true', Bool.not_eq_false', Bool.not_eq_true, Bool.not_eq_false] at hz
    refine stEnd (hK _ [(0, _), (1, _), (10, _)] _ _ rfl ?_)
    clear hK K
    refine W.condF rfl ?_
    refine W.skip ?_
    refine thenN ?_
    refine W.seq ?_
    refine W.sR [0, 1, 5] fun K hK => ?_
    refine st rfl rfl (e_assign rfl) ?_
    refine stEnd (hK _ [(0, _), (1, _), (5, _)] _ _ rfl ?_)
    clear hK K
    refine W.block ?_
    refine W.ord [5, 0, 1] (ts' := [(5, _)] ++ [(0, _), (1, _)]) rfl ?_
    refine W.loopC [(5, _)] [] (fun κ V G μ => V = [(5, .int .i64 0)] ∧ κ = 0) _ ⟨rfl, rfl⟩ fun κ V G μ hinv hμ hkeep hfr => ?_
    obtain ⟨rfl, rfl⟩ := hinv
    refine W.seq ?_
    refine W.sR [0, 1, 5, 14] fun K hK => ?_
    refine st rfl rfl (e_move rfl) ?_
    refine st rfl rfl (e_move rfl) ?_
    refine st rfl rfl (e_len t32 rfl) ?_
    refine st rfl rfl (e_lss rfl rfl) ?_
    refine stB (fun hz => ?_) (fun hz => ?_)
    ·
      exact absurd hz (by simp)
    ·
      try simp only [decide_eq_true_eq, decide_eq_false_iff_not, Bool.not_eq_true', Bool.not_eq_false', Bool.not_eq_true, Bool.not_eq_false] at hz
      refine stEnd (hK _ [(0, _), (1, _), (5, _), (14, _)] _ _ rfl ?_)
      clear hK K
      refine W.condF rfl ?_
      refine W.exit ?_
      refine thenE ?_
      refine thenE ?_
      refine blockX ?_
      refine thenN ?_
      refine W.sR [4] fun K hK => ?_
      refine st rfl rfl (e_assign rfl) ?_
      refine stEnd (hK _ [(4, _)] _ _ rfl ?_)
      clear hK K
      refine W.ret ?_
      refine ⟨.inr rfl, Ends.v0 (by repeat (first | exact self_old | assumption | refine set_old ?_ (by omega) | refine keep_old (by assumption) ?_ (by omega) (by simp; try omega))) hfresh (by first | rfl | (simp [ltT, ltA, ltC, ltV]; try omega)) (res1 (resT rfl) rfl) ?_⟩
      rfl
theorem laws_markIntA5S_nil_s (k : Int) (H : Heap) (n : Nat) : Fn Try.prog 22 [.slice none 0 0, .int .i64 k] H n (.int .i64 k) (H) (n) := by
  refine Fn.intro' Try.func22 rfl (by kernel_rfl) Try.ntmps22 (by simp) (by omega) fun hfresh => ?_
  show W _ _ _ ⟨[(0, _), (1, _)], _, _⟩ _
  refine W.sR [0, 1] fun K hK => ?_
  refine st rfl rfl (e_assign rfl) ?_
  refine stEnd (hK _ [(0, _), (1, _)] _ _ rfl ?_)
  clear hK K
  refine W.seq ?_
  refine W.sR [0, 1, 5] fun K hK => ?_
  refine st rfl rfl (e_assign rfl) ?_
  refine stEnd (hK _ [(0, _), (1, _), (5, _)] _ _ rfl ?_)
  clear hK K
  refine W.block ?_
  refine W.ord [1, 5, 0] (ts' := [(1, _), (5, _)] ++ [(0, _)]) rfl ?_
  refine W.loopC [(1, _), (5, _)] [] (fun κ V G μ => V = [(1, .int .i64 k), (5, .int .i64 0)] ∧ κ = 0) _ ⟨rfl, rfl⟩ fun κ V G μ hinv hμ hkeep hfr => ?_
  obtain ⟨rfl, rfl⟩ := hinv
  refine W.seq ?_
  refine W.sR [0, 1, 5, 10] fun K hK => ?_
  refine st rfl rfl (e_move rfl) ?_
  refine st rfl rfl (e_move rfl) ?_
  refine st rfl rfl (e_len t32 rfl) ?_
  refine st rfl rfl (e_lss rfl rfl) ?_
  refine stB (fun hz => ?_) (fun hz => ?_)
  ·
    exact absurd hz (by simp)
  ·
    try simp only [decide_eq_true_eq, decide_eq_false_iff_not, Bool.not_eq_true', Bool.not_eq_false', Bool.not_eq_true, Bool.not_eq_false] at hz
    refine stEnd (hK _ [(0, _), (1, _), (5, _), (10, _)] _ _ rfl ?_)
    clear hK K
    refine W.condF rfl ?_
    refine W.exit ?_
    refine thenE ?_
    refine thenE ?_
    refine blockX ?_
    refine thenN ?_
    refine W.sR [4] fun K hK => ?_
    refine st rfl rfl (e_move rfl) ?_
    refine st rfl rfl (e_assign rfl) ?_
    refine stEnd (hK _ [(4, _)] _ _ rfl ?_)
    clear hK K
    refine W.ret ?_
    refine ⟨.inr rfl, Ends.v0 (by repeat (first | exact self_old | assumption | refine set_old ?_ (by omega) | refine keep_old (by assumption) ?_ (by omega) (by simp; try omega))) hfresh (by first | rfl | (simp [ltT, ltA, ltC, ltV]; try omega)) (res1 (resT rfl) rfl) ?_⟩
    rfl
theorem laws_heldIntA5S_nil_s (k : Int) (H : Heap) (n : Nat) : Fn Try.prog 23 [.slice none 0 0, .int .i64 k] H n (.int .i64 k) (H) (n) := by
  refine Fn.intro' Try.func23 rfl (by kernel_rfl) Try.ntmps23 (by simp) (by omega) fun hfresh => ?_
  show W _ _ _ ⟨[(0, _), (1, _)], _, _⟩ _
  refine W.sR [0, 1] fun K hK => ?_
  refine st rfl rfl (e_assign rfl) ?_
  refine stEnd (hK _ [(0, _), (1, _)] _ _ rfl ?_)
  clear hK K
  refine W.seq ?_
  refine W.sR [0, 1, 5] fun K hK => ?_
  refine st rfl rfl (e_assign rfl) ?_
  refine stEnd (hK _ [(0, _), (1, _), (5, _)] _ _ rfl ?_)
  clear hK K
  refine W.block ?_
  refine W.ord [1, 5, 0] (ts' := [(1, _), (5, _)] ++ [(0, _)]) rfl ?_
  refine W.loopC [(1, _), (5, _)] [] (fun κ V G μ => V = [(1, .int .i64 k), (5, .int .i64 0)] ∧ κ = 0) _ ⟨rfl, rfl⟩ fun κ V G μ hinv hμ hkeep hfr => ?_
  obtain ⟨rfl, rfl⟩ := hinv
  refine W.seq ?_
  refine W.sR [0, 1, 5, 10] fun K hK => ?_
  refine st rfl rfl (e_move rfl) ?_
  refine st rfl rfl (e_move rfl) ?_
  refine st rfl rfl (e_len t32 rfl) ?_
  refine st rfl rfl (e_lss rfl rfl) ?_
  refine stB (fun hz => ?_) (fun hz => ?_)
  ·
    exact absurd hz (by simp)
  ·
    try simp only [decide_eq_true_eq, decide_eq_false_iff_not, Bool.not_eq_true', Bool.not_eq_false', Bool.not_eq_true, Bool.not_eq_false] at hz
    refine stEnd (hK _ [(0, _), (1, _), (5, _), (10, _)] _ _ rfl ?_)
    clear hK K
    refine W.condF rfl ?_
    refine W.exit ?_
    refine thenE ?_
    refine thenE ?_
    refine blockX ?_
    refine thenN ?_
    refine W.sR [4] fun K hK => ?_
    refine st rfl rfl (e_move rfl) ?_
    refine st rfl rfl (e_assign rfl) ?_
    refine stEnd (hK _ [(4, _)] _ _ rfl ?_)
    clear hK K
    refine W.ret ?_
    refine ⟨.inr rfl, Ends.v0 (by repeat (first | exact self_old | assumption | refine set_old ?_ (by omega) | refine keep_old (by assumption) ?_ (by omega) (by simp; try omega))) hfresh (by first | rfl | (simp [ltT, ltA, ltC, ltV]; try omega)) (res1 (resT rfl) rfl) ?_⟩
    rfl
theorem laws_FnExactSwitchesOf_no (X Y Z : Int) (sv : Value) (cs : List C) (r : Nat) (p q : Int) (H : Heap) (n : Nat) (hr : RowC H r sv cs) (hrn : r ≤ n) (hlen : cs.length ≤ 1048576) (hno : (isHeap X Y Z cs && dirs2 p q) = false) : Fn Try.prog 4 [.agg #[.int .i64 X, .int .i64 Y, .int .i64 Z, sv], .int .i64 p, .int .i64 q] H n (.bool true) (H) (n) := by
  refine Fn.intro' Try.func4 rfl (by kernel_rfl) Try.ntmps4 (by simp) (by omega) fun hfresh => ?_
  obtain ⟨sp0, se0, rfl⟩ := hr.form
  show W _ _ _ ⟨[(0, _), (1, _), (2, _)], _, _⟩ _
  refine W.sR [1, 2, 3] fun K hK => ?_
  refine st rfl rfl (e_boxA rfl) ?_
  refine st rfl rfl (e_assign rfl) ?_
  refine stEnd (hK _ [(1, _), (2, _), (3, _)] _ _ rfl ?_)
  clear hK K
  refine W.sR [1, 2, 3, 7] fun K hK => ?_
  refine st rfl rfl (e_assign rfl) ?_
  refine stEnd (hK _ [(1, _), (2, _), (3, _), (7, _)] _ _ rfl ?_)
  clear hK K
  refine W.sR [1, 2, 3, 7] fun K hK => ?_
  refine st rfl rfl (e_loadA t24 rfl rfl (by repeat (first | exact look_same | assumption | refine look_ne (by omega) ?_)) rfl rfl) ?_
  refine st rfl rfl (e_move rfl) ?_
  refine stC rfl rfl rfl (laws_szHeap_s _ _ _ _ _ _ _ _ _ (by omega)) ?_
  rw [if_neg (by omega)]
  refine st rfl rfl (e_assign rfl) ?_
  refine stEnd (hK _ [(1, _), (2, _), (3, _), (7, _)] _ _ rfl ?_)
  clear hK K
  refine W.seq ?_
  refine W.sR [1, 2, 3, 22] fun K hK => ?_
  refine st rfl rfl (e_move rfl) ?_
  refine st rfl rfl (e_lss rfl rfl) ?_
  refine stB (fun hz => ?_) (fun hz => ?_)
  ·
    first | (have hz2 := of_decide_eq_true hz; omega) | (simp at hz; done) | (simp at hz; omega)
  ·
    try simp only [decide_eq_true_eq, decide_eq_false_iff_not, Bool.not_eq_true', Bool.not_eq_false', Bool.not_eq_true, Bool.not_eq_false] at hz
    refine stEnd (hK _ [(1, _), (2, _), (3, _), (22, _)] _ _ rfl ?_)
    clear hK K
    refine W.condF rfl ?_
    refine W.skip ?_
    refine thenN ?_
    refine W.sR [1, 2, 3, 8, 9] fun K hK => ?_
    refine st rfl rfl (e_loadA t24 rfl rfl (by repeat (first | exact look_same | assumption | refine look_ne (by omega) ?_)) rfl rfl) ?_
    refine stC rfl rfl rfl (laws_toHeap_s _ _ _ _ _ _ _ _ (RowC.keep hr (Nat.le_refl _) (by repeat (first | exact self_old | assumption | refine set_old ?_ (by omega)))) (by omega) (by omega)) ?_
    refine st rfl rfl (e_move rfl) ?_
    refine st rfl rfl (e_move rfl) ?_
    refine stC rfl rfl rfl (spec_SwitchesOf_no_s _ _ _ _ _ _ _ _ _ _ (by repeat (first | exact look_same | assumption | refine look_ne (by omega) ?_)) (by omega) (by assumption)) ?_
    refine st rfl rfl (e_move rfl) ?_
    refine st rfl rfl (e_extract rfl rfl) ?_
    refine st rfl rfl (e_extract rfl rfl) ?_
    refine st rfl rfl (e_assign rfl) ?_
    refine st rfl rfl (e_assign rfl) ?_
    refine stEnd (hK _ [(1, _), (2, _), (3, _), (8, _), (9, _)] _ _ rfl ?_)
    clear hK K
    refine W.sR [1, 2, 3, 8, 9, 10] fun K hK => ?_
    refine st rfl rfl (e_loadA t24 rfl rfl (by repeat (first | exact look_same | assumption | refine look_ne (by omega) ?_)) rfl rfl) ?_
    refine stC rfl rfl rfl (laws_toHeap_s _ _ _ _ _ _ _ _ (RowC.keep hr (Nat.le_refl _) (by repeat (first | exact self_old | assumption | refine set_old ?_ (by omega)))) (by omega) (by omega)) ?_
    refine st rfl rfl (e_alloc t28 rfl) ?_
    refine stN rfl (e_storeA t28 rfl rfl (by repeat (first | exact look_same | assumption | refine look_ne (by omega) ?_)) rfl rfl rfl (by decide)) ?_
    refine stEnd (hK _ [(1, _), (2, _), (3, _), (8, _), (9, _), (10, _)] _ _ rfl ?_)
    clear hK K
    refine W.sR [1, 2, 3, 8, 9, 10, 11, 12] fun K hK => ?_
    refine st rfl rfl (e_loadA t28 rfl rfl (by repeat (first | exact look_same | assumption | refine look_ne (by omega) ?_)) rfl rfl) ?_
    refine st rfl rfl (e_move rfl) ?_
    refine st rfl rfl (e_move rfl) ?_
    refine stC rfl rfl rfl (impl_SwitchesOf_no_s _ _ _ _ _ _ _ _ _ _ (by repeat (first | exact look_same | assumption | refine look_ne (by omega) ?_)) (by omega) (by assumption)) ?_
    refine st rfl rfl (e_move rfl) ?_
    refine st rfl rfl (e_extract rfl rfl) ?_
    refine st rfl rfl (e_extract rfl rfl) ?_
    refine st rfl rfl (e_assign rfl) ?_
    refine st rfl rfl (e_assign rfl) ?_
    refine stEnd (hK _ [(1, _), (2, _), (3, _), (8, _), (9, _), (10, _), (11, _), (12, _)] _ _ rfl ?_)
    clear hK K
    refine W.seq ?_
    refine W.sR [1, 2, 3, 8, 9, 10, 11, 12, 48] fun K hK => ?_
    refine st rfl rfl (e_move rfl) ?_
    refine st rfl rfl (e_move rfl) ?_
    refine stC rfl rfl rfl (laws_eqIntA5S_nil_s _ _ _ ) ?_
    refine st rfl rfl (e_not rfl) ?_
    refine st rfl rfl (e_move rfl) ?_
    refine st rfl rfl (e_move rfl) ?_
    refine st rfl rfl (e_move rfl) ?_
    refine st rfl rfl (e_neqB_same t4 rfl rfl) ?_
    refine st rfl rfl (e_pickF rfl rfl) ?_
    refine stEnd (hK _ [(1, _), (2, _), (3, _), (8, _), (9, _), (10, _), (11, _), (12, _), (48, _)] _ _ rfl ?_)
    clear hK K
    refine W.condF rfl ?_
    refine W.skip ?_
    refine thenN ?_
    refine W.seq ?_
    refine W.sD [1, 2, 3, 8, 9, 10, 11, 12, 53] [0, 0, 2, 7, 15] (by kernel_rfl) (by kernel_rfl) fun K hK => ?_
    refine dL rfl rfl rfl (by omega) (accB_ok rfl) (e_loadA t28 rfl rfl (by repeat (first | exact look_same | assumption | refine look_ne (by omega) ?_)) rfl rfl) ?_
    refine dL rfl rfl rfl (by omega) (accB_ok rfl) (e_loadA t24 rfl rfl (by repeat (first | exact look_same | assumption | refine look_ne (by omega) ?_)) rfl rfl) ?_
    refine dC1 rfl rfl rfl rfl (laws_toHeap_s _ _ _ _ _ _ _ _ (RowC.keep hr (Nat.le_refl _) (by repeat (first | exact self_old | assumption | refine set_old ?_ (by omega) | refine hide_old ?_ (by omega) (by first | exact List.not_mem_nil | (simp [hidden, Nat.testBit]; done) | (simp [hidden, Nat.testBit]; omega))))) (by omega) (by omega)) (by repeat (first | exact trivial | refine And.intro (Or.inl rfl) ?_ | refine And.intro (Or.inr trivial) ?_ | refine And.intro (Or.inr (And.intro (Or.inl (by omega)) (by first | (simp; done) | (simp; omega)))) ?_ | refine And.intro (Or.inr (And.intro (Or.inr (by omega)) (by first | (simp; done) | (simp; omega)))) ?_ | refine And.intro (Or.inr (by simp [compat]; try omega)) ?_)) (by first | exact List.not_mem_nil | (simp [hidden, Nat.testBit]; done) | (simp [hidden, Nat.testBit]; omega)) ?_
    refine dC rfl rfl rfl rfl (laws_eqHeap_s _ _ _ _ _ _ _ _ _ _ _ _ _ _ (by repeat (first | exact look_same | assumption | refine look_ne (by omega) ?_ | refine look_hide (by omega) (by first | exact List.not_mem_nil | (simp [hidden, Nat.testBit]; done) | (simp [hidden, Nat.testBit]; omega)) ?_)) (by repeat (first | exact look_same | assumption | refine look_ne (by omega) ?_ | refine look_hide (by omega) (by first | exact List.not_mem_nil | (simp [hidden, Nat.testBit]; done) | (simp [hidden, Nat.testBit]; omega)) ?_)) (by omega)) (accB_ok rfl) ?_
    rw [decide_eq_true (by simp)]
    refine dP rfl rfl rfl (e_not rfl) ?_
    refine dEnd (hK _ [(1, _), (2, _), (3, _), (8, _), (9, _), (10, _), (11, _), (12, _), (53, _)] _ _ rfl ?_)
    clear hK K
    refine W.condF rfl ?_
    refine W.skip ?_
    refine thenN ?_
    refine W.sR [1, 2, 3, 8, 9, 10, 11, 12, 13] fun K hK => ?_
    refine st rfl rfl (e_assign rfl) ?_
    refine stEnd (hK _ [(1, _), (2, _), (3, _), (8, _), (9, _), (10, _), (11, _), (12, _), (13, _)] _ _ rfl ?_)
    clear hK K
    refine W.sR [1, 2, 3, 8, 9, 11, 12, 13] fun K hK => ?_
    refine st rfl rfl (e_loadA t28 rfl rfl (by repeat (first | exact look_same | assumption | refine look_ne (by omega) ?_)) rfl rfl) ?_
    refine st rfl rfl (e_move rfl) ?_
    refine stC rfl rfl rfl (laws_markHeap_s _ _ _ _ _ _ _ _ _ (by repeat (first | exact look_same | assumption | refine look_ne (by omega) ?_)) (by first | (rw [flat_length]; omega) | simp | omega) (by first | assumption | exact ints_plain _ | exact flat_plain _) (by omega)) ?_
    rw [markV_flat]
    refine st rfl rfl (e_assign rfl) ?_
    refine stEnd (hK _ [(1, _), (2, _), (3, _), (8, _), (9, _), (11, _), (12, _), (13, _)] _ _ rfl ?_)
    clear hK K
    refine W.seq ?_
    refine W.sR [1, 2, 3, 8, 9, 11, 69] fun K hK => ?_
    refine st rfl rfl (e_move rfl) ?_
    refine st rfl rfl (e_lss rfl rfl) ?_
    refine st rfl rfl (e_move rfl) ?_
    refine stB (fun hb2 => ?_) (fun hb2 => ?_)
    ·
      try simp only [decide_eq_true_eq, decide_eq_false_iff_not, Bool.not_eq_true', Bool.not_eq_false', Bool.not_eq_true, Bool.not_eq_false] at hb2
      refine stS rfl rfl ?_
      refine stS rfl rfl ?_
      refine stS rfl rfl ?_
      refine stS rfl rfl ?_
      refine st rfl rfl (e_pickT rfl rfl) ?_
      refine st rfl rfl (e_move rfl) ?_
      refine stS rfl rfl ?_
      refine stS rfl rfl ?_
      refine stS rfl rfl ?_
      refine st rfl rfl (e_pickT rfl rfl) ?_
      refine stEnd (hK _ [(1, _), (2, _), (3, _), (8, _), (9, _), (11, _), (69, _)] _ _ rfl ?_)
      clear hK K
      refine W.condT rfl ?_
      refine W.sR [6] fun K hK => ?_
      refine st rfl rfl (e_assign rfl) ?_
      refine stEnd (hK _ [(6, _)] _ _ rfl ?_)
      clear hK K
      refine W.ret ?_
      refine thenR ?_
      refine ⟨.inr rfl, Ends.v0 (by repeat (first | exact self_old | assumption | refine set_old ?_ (by omega))) hfresh (by first | rfl | (simp [ltT, ltA, ltC, ltV]; try omega)) (res1 (resT rfl) rfl) ?_⟩
      first | rfl | (exfalso; omega)
    ·
      try simp only [decide_eq_true_eq, decide_eq_false_iff_not, Bool.not_eq_true', Bool.not_eq_false', Bool.not_eq_true, Bool.not_eq_false] at hb2
      refine st rfl rfl (e_move rfl) ?_
      refine st rfl rfl (e_move rfl) ?_
      refine stC rfl rfl rfl (laws_eqIntA5S_nil_s _ _ _ ) ?_
      refine st rfl rfl (e_not rfl) ?_
      refine st rfl rfl (e_pickF rfl rfl) ?_
      refine st rfl rfl (e_move rfl) ?_
      refine st rfl rfl (e_move rfl) ?_
      refine st rfl rfl (e_move rfl) ?_
      refine st rfl rfl (e_neqB_same t4 rfl rfl) ?_
      refine st rfl rfl (e_pickF rfl rfl) ?_
      refine stEnd (hK _ [(1, _), (2, _), (3, _), (8, _), (9, _), (11, _), (69, _)] _ _ rfl ?_)
      clear hK K
      refine W.condF rfl ?_
      refine W.skip ?_
      refine thenN ?_
      refine W.sR [1, 2, 3, 8, 9, 11, 14] fun K hK => ?_
      refine st rfl rfl (e_assign rfl) ?_
      refine stEnd (hK _ [(1, _), (2, _), (3, _), (8, _), (9, _), (11, _), (14, _)] _ _ rfl ?_)
      clear hK K
      refine W.sR [1, 2, 3, 8, 9, 11, 14] fun K hK => ?_
      refine st rfl rfl (e_move rfl) ?_
      refine st rfl rfl (e_move rfl) ?_
      refine stC rfl rfl rfl (laws_markIntA5S_nil_s _ _ _ ) ?_
      refine st rfl rfl (e_assign rfl) ?_
      refine stEnd (hK _ [(1, _), (2, _), (3, _), (8, _), (9, _), (11, _), (14, _)] _ _ rfl ?_)
      clear hK K
      refine W.sR [1, 2, 3, 8, 9, 11, 14, 15] fun K hK => ?_
      refine st rfl rfl (e_assign rfl) ?_
      refine stEnd (hK _ [(1, _), (2, _), (3, _), (8, _), (9, _), (11, _), (14, _), (15, _)] _ _ rfl ?_)
      clear hK K
      refine W.sR [1, 2, 3, 8, 9, 11, 14, 15] fun K hK => ?_
      refine st rfl rfl (e_move rfl) ?_
      refine st rfl rfl (e_move rfl) ?_
      refine stC rfl rfl rfl (laws_heldIntA5S_nil_s _ _ _ ) ?_
      refine st rfl rfl (e_assign rfl) ?_
      refine stEnd (hK _ [(1, _), (2, _), (3, _), (8, _), (9, _), (11, _), (14, _), (15, _)] _ _ rfl ?_)
      clear hK K
      refine W.seq ?_
      refine W.sR [1, 2, 3, 8, 9, 11, 14, 15, 77] fun K hK => ?_
      refine st rfl rfl (e_move rfl) ?_
      refine st rfl rfl (e_lss rfl rfl) ?_
      refine stB (fun hz => ?_) (fun hz => ?_)
      ·
        first | (have hz2 := of_decide_eq_true hz; omega) | (simp at hz; done) | (simp at hz; omega)
      ·
        try simp only [decide_eq_true_eq, decide_eq_false_iff_not, Bool.not_eq_true', Bool.not_eq_false', Bool.not_eq_true, Bool.not_eq_false] at hz
        refine stEnd (hK _ [(1, _), (2, _), (3, _), (8, _), (9, _), (11, _), (14, _), (15, _), (77, _)] _ _ rfl ?_)
        clear hK K
        refine W.condF rfl ?_
        refine W.skip ?_
        refine thenN ?_
        refine W.seq ?_
        refine W.sR [1, 2, 3, 8, 9, 11, 14, 80] fun K hK => ?_
        refine st rfl rfl (e_move rfl) ?_
        refine st rfl rfl (e_move rfl) ?_
        refine st rfl rfl (e_neq rfl rfl) ?_
        refine stB (fun hz => ?_) (fun hz => ?_)
        ·
          first | (have hz2 := of_decide_eq_true hz; omega) | (simp at hz; done) | (simp at hz; omega)
        ·
          try simp only [decide_eq_true_eq, decide_eq_false_iff_not, Bool.not_eq_true', Bool.not_eq_false', Bool.not_eq_true, Bool.not_eq_false] at hz
          refine stEnd (hK _ [(1, _), (2, _), (3, _), (8, _), (9, _), (11, _), (14, _), (80, _)] _ _ rfl ?_)
          clear hK K
          refine W.condF rfl ?_
          refine W.skip ?_
          refine thenN ?_
          refine W.sR [8, 9, 11, 14, 16, 17] fun K hK => ?_
          refine st rfl rfl (e_loadA t24 rfl rfl (by repeat (first | exact look_same | assumption | refine look_ne (by omega) ?_)) rfl rfl) ?_
          refine stC rfl rfl rfl (laws_toHeap_s _ _ _ _ _ _ _ _ (RowC.keep hr (Nat.le_refl _) (by repeat (first | exact self_old | assumption | refine set_old ?_ (by omega)))) (by omega) (by omega)) ?_
          refine st rfl rfl (e_move rfl) ?_
          refine st rfl rfl (e_move rfl) ?_
          refine stC rfl rfl rfl (impl_SwitchesOf_no_s _ _ _ _ _ _ _ _ _ _ (by repeat (first | exact look_same | assumption | refine look_ne (by omega) ?_)) (by omega) (by assumption)) ?_
          refine st rfl rfl (e_move rfl) ?_
          refine st rfl rfl (e_extract rfl rfl) ?_
          refine st rfl rfl (e_extract rfl rfl) ?_
          refine st rfl rfl (e_assign rfl) ?_
          refine st rfl rfl (e_assign rfl) ?_
          refine stEnd (hK _ [(8, _), (9, _), (11, _), (14, _), (16, _), (17, _)] _ _ rfl ?_)
          clear hK K
          refine W.seq ?_
          refine W.sR [11, 14, 97] fun K hK => ?_
          refine st rfl rfl (e_move rfl) ?_
          refine st rfl rfl (e_move rfl) ?_
          refine stC rfl rfl rfl (laws_eqIntA5S_nil_s _ _ _ ) ?_
          refine st rfl rfl (e_not rfl) ?_
          refine st rfl rfl (e_move rfl) ?_
          refine st rfl rfl (e_move rfl) ?_
          refine st rfl rfl (e_move rfl) ?_
          refine st rfl rfl (e_neqB_same t4 rfl rfl) ?_
          refine st rfl rfl (e_pickF rfl rfl) ?_
          refine stEnd (hK _ [(11, _), (14, _), (97, _)] _ _ rfl ?_)
          clear hK K
          refine W.condF rfl ?_
          refine W.skip ?_
          refine thenN ?_
          refine W.sR [11, 14, 15] fun K hK => ?_
          refine st rfl rfl (e_assign rfl) ?_
          refine stEnd (hK _ [(11, _), (14, _), (15, _)] _ _ rfl ?_)
          clear hK K
          refine W.sR [14, 15] fun K hK => ?_
          refine st rfl rfl (e_move rfl) ?_
          refine st rfl rfl (e_move rfl) ?_
          refine stC rfl rfl rfl (laws_heldIntA5S_nil_s _ _ _ ) ?_
          refine st rfl rfl (e_assign rfl) ?_
          refine stEnd (hK _ [(14, _), (15, _)] _ _ rfl ?_)
          clear hK K
          refine W.seq ?_
          refine W.sR [14, 15, 102] fun K hK => ?_
          refine st rfl rfl (e_move rfl) ?_
          refine st rfl rfl (e_lss rfl rfl) ?_
          refine stB (fun hz => ?_) (fun hz => ?_)
          ·
            first | (have hz2 := of_decide_eq_true hz; omega) | (simp at hz; done) | (simp at hz; omega)
          ·
            try simp only [decide_eq_true_eq, decide_eq_false_iff_not, Bool.not_eq_true', Bool.not_eq_false', Bool.not_eq_true, Bool.not_eq_false] at hz
            refine stEnd (hK _ [(14, _), (15, _), (102, _)] _ _ rfl ?_)
            clear hK K
            refine W.condF rfl ?_
            refine W.skip ?_
            refine thenN ?_
            refine W.seq ?_
            refine W.sR [105] fun K hK => ?_
            refine st rfl rfl (e_move rfl) ?_
            refine st rfl rfl (e_move rfl) ?_
            refine st rfl rfl (e_neq rfl rfl) ?_
            refine stB (fun hz => ?_) (fun hz => ?_)
            ·
              first | (have hz2 := of_decide_eq_true hz; omega) | (simp at hz; done) | (simp at hz; omega)
            ·
              try simp only [decide_eq_true_eq, decide_eq_false_iff_not, Bool.not_eq_true', Bool.not_eq_false', Bool.not_eq_true, Bool.not_eq_false] at hz
              refine stEnd (hK _ [(105, _)] _ _ rfl ?_)
              clear hK K
              refine W.condF rfl ?_
              refine W.skip ?_
              refine thenN ?_
              refine W.sR [6] fun K hK => ?_
              refine st rfl rfl (e_assign rfl) ?_
              refine stEnd (hK _ [(6, _)] _ _ rfl ?_)
              clear hK K
              refine W.ret ?_
              refine ⟨.inr rfl, Ends.v0 (by repeat (first | exact self_old | assumption | refine set_old ?_ (by omega))) hfresh (by first | rfl | (simp [ltT, ltA, ltC, ltV]; try omega)) (res1 (resT rfl) rfl) ?_⟩
              first | rfl | (exfalso; omega)
theorem laws_FnExactSwitchesOf_big (X Y Z : Int) (sv : Value) (cs : List C) (r : Nat) (p q : Int) (H : Heap) (n : Nat) (hr : RowC H r sv cs) (hrn : r ≤ n) (hlen : ¬ cs.length ≤ 1048576) (hmax : cs.length ≤ 9223372036854775807) : Fn Try.prog 4 [.agg #[.int .i64 X, .int .i64 Y, .int .i64 Z, sv], .int .i64 p, .int .i64 q] H n (.bool true) (H) (n) := by
  refine Fn.intro' Try.func4 rfl (by kernel_rfl) Try.ntmps4 (by simp) (by omega) fun hfresh => ?_
  obtain ⟨sp0, se0, rfl⟩ := hr.form
  show W _ _ _ ⟨[(0, _), (1, _), (2, _)], _, _⟩ _
  refine W.sR [1, 2, 3] fun K hK => ?_
  refine st rfl rfl (e_boxA rfl) ?_
  refine st rfl rfl (e_assign rfl) ?_
  refine stEnd (hK _ [(1, _), (2, _), (3, _)] _ _ rfl ?_)
  clear hK K
  refine W.sR [1, 2, 3, 7] fun K hK => ?_
  refine st rfl rfl (e_assign rfl) ?_
  refine stEnd (hK _ [(1, _), (2, _), (3, _), (7, _)] _ _ rfl ?_)
  clear hK K
  refine W.sR [1, 2, 3, 7] fun K hK => ?_
  refine st rfl rfl (e_loadA t24 rfl rfl (by repeat (first | exact look_same | assumption | refine look_ne (by omega) ?_)) rfl rfl) ?_
  refine st rfl rfl (e_move rfl) ?_
  refine stC rfl rfl rfl (laws_szHeap_s _ _ _ _ _ _ _ _ _ (by omega)) ?_
  rw [if_pos (by omega)]
  refine st rfl rfl (e_assign rfl) ?_
  refine stEnd (hK _ [(1, _), (2, _), (3, _), (7, _)] _ _ rfl ?_)
  clear hK K
  refine W.seq ?_
  refine W.sR [1, 2, 3, 22] fun K hK => ?_
  refine st rfl rfl (e_move rfl) ?_
  refine st rfl rfl (e_lss rfl rfl) ?_
  refine stB (fun hz => ?_) (fun hz => ?_)
  ·
    try simp only [decide_eq_true_eq, decide_eq_false_iff_not, Bool.not_eq_true', Bool.not_eq_false', Bool.not_eq_true, Bool.not_eq_false] at hz
    refine stEnd (hK _ [(1, _), (2, _), (3, _), (22, _)] _ _ rfl ?_)
    clear hK K
    refine W.condT rfl ?_
    refine W.sR [6] fun K hK => ?_
    refine st rfl rfl (e_assign rfl) ?_
    refine stEnd (hK _ [(6, _)] _ _ rfl ?_)
    clear hK K
    refine W.ret ?_
    refine thenR ?_
    refine ⟨.inr rfl, Ends.v0 (by repeat (first | exact self_old | assumption | refine set_old ?_ (by omega))) hfresh (by first | rfl | (simp [ltT, ltA, ltC, ltV]; try omega)) (res1 (resT rfl) rfl) ?_⟩
    rfl
  ·
    first | (simp at hz; done) | (simp at hz; omega)
end Go.Sep.Walks
