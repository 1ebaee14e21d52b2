/- Part of a proof: h1 -/
import Derived.Test.Ytoojonccocgnhaah0
namespace Go.Sep.Walks
open Go Go.Sep Go.Proofs
set_option linter.unusedVariables false
set_option linter.unusedSimpArgs false
theorem spec_l2With_s (X Y Z : Int) (b : Nat) (ro : Bool) (cs : List C) (c : C) (H : Heap) (n : Nat) (hb : H b = some (.cells ro (flat cs))) (hlen : cs.length ≤ 1048576) : Fn Try.prog 78 [.agg #[.int .i64 X, .int .i64 Y, .int .i64 Z, .slice (some ⟨b, 0, none⟩) cs.length 3], .agg #[.int .i64 c.1, .int .i64 c.2.1, .int .i64 c.2.2]] H n (.agg #[.int .i64 X, .int .i64 Y, .int .i64 Z, .slice (some ⟨n, 0, none⟩) (withC cs c).length 3]) (H.set n (.cells false (flat (withC cs c)))) (n + 1) := by
  refine Fn.intro' Try.func78 rfl (by kernel_rfl) Try.ntmps78 (by simp) (by omega) fun hfresh => ?_
  have lt_hb := lt_fresh hfresh hb
  show W _ _ _ ⟨[(0, _), (1, _)], _, _⟩ _
  refine W.sR [2, 3, 4] fun K hK => ?_
  refine st rfl rfl (e_boxA rfl) ?_
  refine st rfl rfl (e_boxA rfl) ?_
  refine st rfl rfl (e_alloc t29 rfl) ?_
  refine stEnd (hK _ [(2, _), (3, _), (4, _)] _ _ rfl ?_)
  clear hK K
  refine W.sR [2, 3, 4, 5] fun K hK => ?_
  refine st rfl rfl (e_assign rfl) ?_
  refine stEnd (hK _ [(2, _), (3, _), (4, _), (5, _)] _ _ rfl ?_)
  clear hK K
  refine W.seq ?_
  refine W.block ?_
  refine W.ord [5, 2, 3, 4] (ts' := [(5, _)] ++ [(2, _), (3, _), (4, _)]) rfl ?_
  refine W.loopC [(5, _)] [] (fun κ V G μ => ∃ k : Nat, V = [(5, .int .i64 (k : Nat))] ∧ κ = cs.length - k ∧ (k ≤ cs.length) ∧ (∀ j, j < k → before (at3 cs j) c = true)) _ ⟨0, rfl, rfl, (by first | omega | assumption | rfl | simp_all), (fun j hj => absurd hj (by omega))⟩ fun κ V G μ hinv hμ hkeep hfr => ?_
  obtain ⟨k, rfl, rfl, hk, hq⟩ := hinv
  refine W.seq ?_
  refine W.sD [2, 3, 4, 5, 19] [0, 0, 2, 6, 15, 31, 63, 127, 63, 511, 1023, 63, 4095, 8191] (by kernel_rfl) (by kernel_rfl) fun K hK => ?_
  refine dP rfl rfl rfl (e_move rfl) ?_
  refine dP rfl rfl rfl (e_fieldAddr t29 t22 rfl rfl) ?_
  refine dL rfl rfl rfl (by omega) (accB_ok rfl) (e_load1 t22 rfl rfl (by repeat (first | exact look_same | assumption | refine look_ne (by omega) ?_ | refine look_del (by omega) ?_ | refine look_keep (by assumption) (by omega) (by simp; try omega) ?_)) rfl) ?_
  refine dP rfl rfl rfl (e_len t22 rfl) ?_
  refine dP rfl rfl rfl (e_lss rfl rfl) ?_
  refine dP rfl rfl rfl (e_move rfl) ?_
  refine dB (fun ha => ?_) (fun ha => ?_)
  ·
    try simp only [decide_eq_true_eq, decide_eq_false_iff_not, Bool.not_eq_true', Bool.not_eq_false', Bool.not_eq_true, Bool.not_eq_false] at ha
    refine dP rfl rfl rfl (e_fieldAddr t29 t22 rfl rfl) ?_
    refine dL rfl rfl rfl (by omega) (accB_ok rfl) (e_load1 t22 rfl rfl (by repeat (first | exact look_same | assumption | refine look_ne (by omega) ?_ | refine look_del (by omega) ?_ | refine look_keep (by assumption) (by omega) (by simp; try omega) ?_)) rfl) ?_
    refine dP rfl rfl rfl (e_move rfl) ?_
    refine dP rfl rfl rfl (e_idxSK _ t22 t41 rfl rfl rfl (by first | omega | decide)) ?_
    refine dL rfl rfl rfl (by omega) (accB_ok rfl) (e_loadP t41 rfl rfl (by repeat (first | exact look_same | assumption | refine look_ne (by omega) ?_ | refine look_del (by omega) ?_ | refine look_keep (by assumption) (by omega) (by simp; try omega) ?_)) (flat_at (by omega))) ?_
    refine dL rfl rfl rfl (by omega) (accB_ok rfl) (e_loadA t41 rfl rfl (by repeat (first | exact look_same | assumption | refine look_ne (by omega) ?_ | refine look_del (by omega) ?_ | refine look_keep (by assumption) (by omega) (by simp; try omega) ?_)) rfl rfl) ?_
    refine dC rfl rfl rfl rfl (spec_l2Before_s _ _ _ _ ) (accB_ok rfl) ?_
    refine dP rfl rfl rfl (e_pickT rfl rfl) ?_
    refine dB (fun hw => ?_) (fun hw => ?_)
    ·
      try simp only [decide_eq_true_eq, decide_eq_false_iff_not, Bool.not_eq_true', Bool.not_eq_false', Bool.not_eq_true, Bool.not_eq_false] at hw
      refine dEnd (hK _ [(2, _), (3, _), (4, _), (5, _), (19, _)] _ _ rfl ?_)
      clear hK K
      refine W.condT rfl ?_
      refine W.skip ?_
      refine thenN ?_
      refine W.block ?_
      refine W.rR [2, 3, 4, 5] fun K hK => ?_
      refine st rfl rfl (e_move rfl) ?_
      refine st rfl rfl (e_add rfl rfl (inB _ (by omega))) ?_
      refine st rfl rfl (e_assign rfl) ?_
      refine stEnd (hK _ [(2, _), (3, _), (4, _), (5, _)] _ _ rfl ?_)
      clear hK K
      refine blockN ?_
      exact roundN (V' := [(5, _)]) [5, 2, 3, 4] rfl (by omega) (by repeat (first | exact Keeps.refl _ _ _ | assumption | refine Keeps.trans ?_ (by assumption) (by omega) (by simp; try omega) | refine Keeps.set ?_ (by first | exact Or.inl (by omega) | (simp; done) | (simp; omega)) | refine Keeps.del ?_ (by first | exact Or.inl (by omega) | (simp; done) | (simp; omega)))) _ (by omega) ⟨k + 1, rfl, rfl, (by first | omega | assumption | simp_all), (all_succ hq (by assumption))⟩
    ·
      try simp only [decide_eq_true_eq, decide_eq_false_iff_not, Bool.not_eq_true', Bool.not_eq_false', Bool.not_eq_true, Bool.not_eq_false] at hw
      have h2 : k = cs.length ∨ before (at3 cs k) c = false := .inr (by assumption)
      refine dEnd (hK _ [(2, _), (3, _), (4, _), (5, _), (19, _)] _ _ rfl ?_)
      clear hK K
      refine W.condF rfl ?_
      refine W.exit ?_
      refine thenE ?_
      refine thenE ?_
      refine blockX ?_
      refine thenN ?_
      refine W.seq ?_
      refine W.sD [2, 3, 4, 5, 35] [0, 0, 2, 6, 15, 31, 63, 127, 63, 511, 1023, 63, 4095, 8191] (by kernel_rfl) (by kernel_rfl) fun K hK => ?_
      refine dP rfl rfl rfl (e_move rfl) ?_
      refine dP rfl rfl rfl (e_fieldAddr t29 t22 rfl rfl) ?_
      refine dL rfl rfl rfl (by omega) (accB_ok rfl) (e_load1 t22 rfl rfl (by repeat (first | exact look_same | assumption | refine look_ne (by omega) ?_ | refine look_del (by omega) ?_ | refine look_keep (by assumption) (by omega) (by simp; try omega) ?_)) rfl) ?_
      refine dP rfl rfl rfl (e_len t22 rfl) ?_
      refine dP rfl rfl rfl (e_lss rfl rfl) ?_
      refine dP rfl rfl rfl (e_move rfl) ?_
      refine dB (fun hu => ?_) (fun hu => ?_)
      ·
        try simp only [decide_eq_true_eq, decide_eq_false_iff_not, Bool.not_eq_true', Bool.not_eq_false', Bool.not_eq_true, Bool.not_eq_false] at hu
        refine dP rfl rfl rfl (e_fieldAddr t29 t22 rfl rfl) ?_
        refine dL rfl rfl rfl (by omega) (accB_ok rfl) (e_load1 t22 rfl rfl (by repeat (first | exact look_same | assumption | refine look_ne (by omega) ?_ | refine look_del (by omega) ?_ | refine look_keep (by assumption) (by omega) (by simp; try omega) ?_)) rfl) ?_
        refine dP rfl rfl rfl (e_move rfl) ?_
        refine dP rfl rfl rfl (e_idxSK _ t22 t41 rfl rfl rfl (by first | omega | decide)) ?_
        refine dL rfl rfl rfl (by omega) (accB_ok rfl) (e_loadP t41 rfl rfl (by repeat (first | exact look_same | assumption | refine look_ne (by omega) ?_ | refine look_del (by omega) ?_ | refine look_keep (by assumption) (by omega) (by simp; try omega) ?_)) (flat_at (by omega))) ?_
        refine dL rfl rfl rfl (by omega) (accB_ok rfl) (e_loadA t41 rfl rfl (by repeat (first | exact look_same | assumption | refine look_ne (by omega) ?_ | refine look_del (by omega) ?_ | refine look_keep (by assumption) (by omega) (by simp; try omega) ?_)) rfl rfl) ?_
        refine dP rfl rfl rfl (e_eqA3 t41 t3 rfl rfl) ?_
        refine dP rfl rfl rfl (e_pickT rfl rfl) ?_
        refine dB (fun hz => ?_) (fun hz => ?_)
        ·
          try simp only [decide_eq_true_eq, decide_eq_false_iff_not, Bool.not_eq_true', Bool.not_eq_false', Bool.not_eq_true, Bool.not_eq_false] at hz
          have hwe : withC cs c = cs := withC_same (by omega) hq (by rw [hz]; exact before_irrefl c) hz
          refine dEnd (hK _ [(2, _), (3, _), (4, _), (5, _), (35, _)] _ _ rfl ?_)
          clear hK K
          refine W.condT rfl ?_
          refine W.sR [4] fun K hK => ?_
          refine st rfl rfl (e_loadA t29 rfl rfl (by repeat (first | exact look_same | assumption | refine look_ne (by omega) ?_ | refine look_del (by omega) ?_ | refine look_keep (by assumption) (by omega) (by simp; try omega) ?_)) rfl rfl) ?_
          refine stC rfl rfl rfl (spec_l2Own_s _ _ _ _ _ _ _ _ (by repeat (first | exact look_same | assumption | refine look_ne (by omega) ?_ | refine look_del (by omega) ?_ | refine look_keep (by assumption) (by omega) (by simp; try omega) ?_)) (by omega)) ?_
          refine stN rfl (e_storeA t29 rfl rfl (by repeat (first | exact look_same | assumption | refine look_ne (by omega) ?_ | refine look_del (by omega) ?_ | refine look_keep (by assumption) (by omega) (by simp; try omega) ?_)) rfl rfl rfl (by decide)) ?_
          refine stEnd (hK _ [(4, _)] _ _ rfl ?_)
          clear hK K
          refine W.ret ?_
          refine thenR ?_
          refine ⟨.inr rfl, Ends.v1 (μ) (by omega) (by repeat (first | exact self_old | assumption | refine set_old ?_ (by omega) | refine del_old ?_ (by omega) | refine keep_old (by assumption) ?_ (by omega) (by simp; try omega))) hfresh (by repeat (first | exact look_same | assumption | refine look_ne (by omega) ?_ | refine look_del (by omega) ?_ | refine look_keep (by assumption) (by omega) (by simp; try omega) ?_)) ?_ (by first | exact flat_plain _ | exact ints_plain _) (by simp [ltT, ltA, ltC, ltV]; try omega) (res1 (resC t29 rfl rfl (by repeat (first | exact look_same | assumption | refine look_ne (by omega) ?_ | refine look_del (by omega) ?_ | refine look_keep (by assumption) (by omega) (by simp; try omega) ?_)) rfl rfl) rfl) ?_⟩
          · rw [hwe]
          · simp [renT, renV, renC, renA, one, hwe]
        ·
          try simp only [decide_eq_true_eq, decide_eq_false_iff_not, Bool.not_eq_true', Bool.not_eq_false', Bool.not_eq_true, Bool.not_eq_false] at hz
          have h3 : k = cs.length ∨ ¬ at3 cs k = c := .inr hz
          refine dEnd (hK _ [(2, _), (3, _), (4, _), (5, _), (35, _)] _ _ rfl ?_)
          clear hK K
          refine W.condF rfl ?_
          refine W.skip ?_
          refine thenN ?_
          refine W.sD [4] [0, 0, 0, 4, 0, 28, 62, 0, 128, 510, 0, 1024, 0, 7168, 16382, 32767, 65535] (by kernel_rfl) (by kernel_rfl) fun K hK => ?_
          refine dL rfl rfl rfl (by omega) (accB_ok rfl) (e_loadA t29 rfl rfl (by repeat (first | exact look_same | assumption | refine look_ne (by omega) ?_ | refine look_del (by omega) ?_ | refine look_keep (by assumption) (by omega) (by simp; try omega) ?_)) rfl rfl) ?_
          refine dN rfl rfl rfl (e_buildSlice rfl rfl (bsl22_0)) ?_
          refine dP rfl rfl rfl (e_fieldAddr t29 t22 rfl rfl) ?_
          refine dL rfl rfl rfl (by omega) (by repeat (first | exact trivial | refine And.intro (Or.inl rfl) ?_ | refine And.intro (Or.inr trivial) ?_ | refine And.intro (Or.inr (And.intro (Or.inl (by omega)) (by first | (simp; done) | (simp; omega)))) ?_ | refine And.intro (Or.inr (And.intro (Or.inr (by omega)) (by first | (simp; done) | (simp; omega)))) ?_ | refine And.intro (Or.inr (by simp [compat]; try omega)) ?_)) (e_load1 t22 rfl rfl (by repeat (first | exact look_same | assumption | refine look_ne (by omega) ?_ | refine look_del (by omega) ?_ | refine look_keep (by assumption) (by omega) (by simp; try omega) ?_)) rfl) ?_
          refine dP rfl rfl rfl (e_move rfl) ?_
          refine dP rfl rfl rfl (e_sliceHi (k) t22 t41 rfl rfl rfl (by omega)) ?_
          refine dA rfl rfl rfl rfl (app_any t22 t22 t41 rfl rfl (by repeat (first | exact look_same | assumption | refine look_ne (by omega) ?_ | refine look_del (by omega) ?_ | refine look_keep (by assumption) (by omega) (by simp; try omega) ?_ | refine look_hide (by omega) (by first | exact List.not_mem_nil | (simp [hidden, Nat.testBit]; done) | (simp [hidden, Nat.testBit]; omega)) ?_)) (take_subHi (by repeat (first | exact look_same | assumption | refine look_ne (by omega) ?_ | refine look_del (by omega) ?_ | refine look_keep (by assumption) (by omega) (by simp; try omega) ?_ | refine look_hide (by omega) (by first | exact List.not_mem_nil | (simp [hidden, Nat.testBit]; done) | (simp [hidden, Nat.testBit]; omega)) ?_)) hk) (by decide) (by first | rfl | (simp [flat_length]; done) | (simp [flat_length]; omega)) (by first | rfl | (simp [flat_length]; done) | (simp [flat_length]; omega)) (by omega) (by omega)) (by omega) (by first | exact List.not_mem_nil | (simp [hidden, Nat.testBit]; done) | (simp [hidden, Nat.testBit]; omega)) (by first | exact List.not_mem_nil | (simp [hidden, Nat.testBit]; done) | (simp [hidden, Nat.testBit]; omega)) (fun n' => (by repeat (first | exact trivial | refine And.intro (Or.inl rfl) ?_ | refine And.intro (Or.inr trivial) ?_ | refine And.intro (Or.inr (And.intro (Or.inl (by omega)) (by first | (simp; done) | (simp; omega)))) ?_ | refine And.intro (Or.inr (And.intro (Or.inr (by omega)) (by first | (simp; done) | (simp; omega)))) ?_ | refine And.intro (Or.inr (by simp [compat]; try omega)) ?_))) (fun p1 G1 n1 hp1 hk1 hn1 hl1 hb1 => ?_)
          refine dL rfl rfl rfl (by omega) (by repeat (first | exact trivial | refine And.intro (Or.inl rfl) ?_ | refine And.intro (Or.inr trivial) ?_ | refine And.intro (Or.inr (And.intro (Or.inl (by omega)) (by first | (simp; done) | (simp; omega)))) ?_ | refine And.intro (Or.inr (And.intro (Or.inr (by omega)) (by first | (simp; done) | (simp; omega)))) ?_ | refine And.intro (Or.inr (by simp [compat]; try omega)) ?_)) (e_loadA t41 rfl rfl (by repeat (first | exact look_same | assumption | refine look_ne (by omega) ?_ | refine look_del (by omega) ?_ | refine look_keep (by assumption) (by omega) (by simp; try omega) ?_)) rfl rfl) ?_
          refine dN rfl rfl rfl (e_buildSlice rfl rfl (bsl22_1)) ?_
          refine dA rfl rfl rfl rfl (app_any t22 t22 t41 rfl rfl (by repeat (first | exact look_same | assumption | refine look_ne (by omega) ?_ | refine look_del (by omega) ?_ | refine look_keep (by assumption) (by omega) (by simp; try omega) ?_ | refine look_hide (by omega) (by first | exact List.not_mem_nil | (simp [hidden, Nat.testBit]; done) | (simp [hidden, Nat.testBit]; omega)) ?_)) (take_row (m := 1) (by repeat (first | exact look_same | assumption | refine look_ne (by omega) ?_ | refine look_del (by omega) ?_ | refine look_keep (by assumption) (by omega) (by simp; try omega) ?_ | refine look_hide (by omega) (by first | exact List.not_mem_nil | (simp [hidden, Nat.testBit]; done) | (simp [hidden, Nat.testBit]; omega)) ?_)) rfl) (by decide) (by first | rfl | (simp [flat_length]; done) | (simp [flat_length]; omega)) (by first | rfl | (simp [flat_length]; done) | (simp [flat_length]; omega)) (by omega) (by omega)) (by omega) (by first | exact List.not_mem_nil | (simp [hidden, Nat.testBit]; done) | (simp [hidden, Nat.testBit]; omega)) (by first | exact List.not_mem_nil | (simp [hidden, Nat.testBit]; done) | (simp [hidden, Nat.testBit]; omega)) (fun n' => (by repeat (first | exact trivial | refine And.intro (Or.inl rfl) ?_ | refine And.intro (Or.inr trivial) ?_ | refine And.intro (Or.inr (And.intro (Or.inl (by omega)) (by first | (simp; done) | (simp; omega)))) ?_ | refine And.intro (Or.inr (And.intro (Or.inr (by omega)) (by first | (simp; done) | (simp; omega)))) ?_ | refine And.intro (Or.inr (by simp [compat]; try omega)) ?_))) (fun p2 G2 n2 hp2 hk2 hn2 hl2 hb2 => ?_)
          refine dP rfl rfl rfl (e_fieldAddr t29 t22 rfl rfl) ?_
          refine dL rfl rfl rfl (by omega) (by repeat (first | exact trivial | refine And.intro (Or.inl rfl) ?_ | refine And.intro (Or.inr trivial) ?_ | refine And.intro (Or.inr (And.intro (Or.inl (by omega)) (by first | (simp; done) | (simp; omega)))) ?_ | refine And.intro (Or.inr (And.intro (Or.inr (by omega)) (by first | (simp; done) | (simp; omega)))) ?_ | refine And.intro (Or.inr (by simp [compat]; try omega)) ?_)) (e_load1 t22 rfl rfl (by repeat (first | exact look_same | assumption | refine look_ne (by omega) ?_ | refine look_del (by omega) ?_ | refine look_keep (by assumption) (by omega) (by simp; try omega) ?_)) rfl) ?_
          refine dP rfl rfl rfl (e_move rfl) ?_
          refine dP rfl rfl rfl (e_sliceLo (k) t22 t41 rfl rfl rfl (by omega)) ?_
          refine dA rfl rfl rfl rfl (app_any t22 t22 t41 rfl rfl (by repeat (first | exact look_same | assumption | refine look_ne (by omega) ?_ | refine look_del (by omega) ?_ | refine look_keep (by assumption) (by omega) (by simp; try omega) ?_ | refine look_hide (by omega) (by first | exact List.not_mem_nil | (simp [hidden, Nat.testBit]; done) | (simp [hidden, Nat.testBit]; omega)) ?_)) (take_subLo (by repeat (first | exact look_same | assumption | refine look_ne (by omega) ?_ | refine look_del (by omega) ?_ | refine look_keep (by assumption) (by omega) (by simp; try omega) ?_ | refine look_hide (by omega) (by first | exact List.not_mem_nil | (simp [hidden, Nat.testBit]; done) | (simp [hidden, Nat.testBit]; omega)) ?_)) rfl hk) (by decide) (by first | rfl | (simp [flat_length]; done) | (simp [flat_length]; omega)) (by first | rfl | (simp [flat_length]; done) | (simp [flat_length]; omega)) (by omega) (by omega)) (by omega) (by first | exact List.not_mem_nil | (simp [hidden, Nat.testBit]; done) | (simp [hidden, Nat.testBit]; omega)) (by first | exact List.not_mem_nil | (simp [hidden, Nat.testBit]; done) | (simp [hidden, Nat.testBit]; omega)) (fun n' => (by repeat (first | exact trivial | refine And.intro (Or.inl rfl) ?_ | refine And.intro (Or.inr trivial) ?_ | refine And.intro (Or.inr (And.intro (Or.inl (by omega)) (by first | (simp; done) | (simp; omega)))) ?_ | refine And.intro (Or.inr (And.intro (Or.inr (by omega)) (by first | (simp; done) | (simp; omega)))) ?_ | refine And.intro (Or.inr (by simp [compat]; try omega)) ?_))) (fun p9 G9 n9 hp9 hk9 hn9 hl9 hb9 => ?_)
          refine dC rfl rfl rfl rfl (spec_l2Made_s _ _ _ _ _ _ _ _ (by omega)) (accB_ok rfl) ?_
          refine dSt rfl rfl (e_storeA t29 rfl rfl (by repeat (first | exact look_same | assumption | refine look_ne (by omega) ?_ | refine look_del (by omega) ?_ | refine look_keep (by assumption) (by omega) (by simp; try omega) ?_ | refine look_hide (by omega) (by first | exact List.not_mem_nil | (simp [hidden, Nat.testBit]; done) | (simp [hidden, Nat.testBit]; omega)) ?_)) rfl rfl rfl (by decide)) (by omega) (by first | exact List.not_mem_nil | (simp [hidden, Nat.testBit]; done) | (simp [hidden, Nat.testBit]; omega)) (accB_ok rfl) ?_
          refine dEnd (hK _ [(4, _)] _ _ rfl ?_)
          clear hK K
          refine W.ret ?_
          refine ⟨.inr rfl, Ends.v1 (p9) (by omega) (by repeat (first | exact self_old | assumption | refine set_old ?_ (by omega) | refine del_old ?_ (by omega) | refine keep_old (by assumption) ?_ (by omega) (by simp; try omega))) hfresh (by repeat (first | exact look_same | assumption | refine look_ne (by omega) ?_ | refine look_del (by omega) ?_ | refine look_keep (by assumption) (by omega) (by simp; try omega) ?_)) ?_ (by first | exact flat_plain _ | exact ints_plain _) (by simp [ltT, ltA, ltC, ltV]; try omega) (res1 (resC t29 rfl rfl (by repeat (first | exact look_same | assumption | refine look_ne (by omega) ?_ | refine look_del (by omega) ?_ | refine look_keep (by assumption) (by omega) (by simp; try omega) ?_)) rfl rfl) rfl) ?_⟩
          · (rw [withC_new hk hq h2 h3]; simp [flat_append, flat])
          · (rw [withC_new hk hq h2 h3]; simp [renT, renV, renC, renA, one]; omega)
      ·
        try simp only [decide_eq_true_eq, decide_eq_false_iff_not, Bool.not_eq_true', Bool.not_eq_false', Bool.not_eq_true, Bool.not_eq_false] at hu
        have h3 : k = cs.length ∨ ¬ at3 cs k = c := .inl (by omega)
        refine dS rfl rfl ?_
        refine dS rfl rfl ?_
        refine dS rfl rfl ?_
        refine dS rfl rfl ?_
        refine dS rfl rfl ?_
        refine dS rfl rfl ?_
        refine dS rfl rfl ?_
        refine dP rfl rfl rfl (e_pickF rfl rfl) ?_
        refine dEnd (hK _ [(2, _), (3, _), (4, _), (5, _), (35, _)] _ _ rfl ?_)
        clear hK K
        refine W.condF rfl ?_
        refine W.skip ?_
        refine thenN ?_
        refine W.sD [4] [0, 0, 0, 4, 0, 28, 62, 0, 128, 510, 0, 1024, 0, 7168, 16382, 32767, 65535] (by kernel_rfl) (by kernel_rfl) fun K hK => ?_
        refine dL rfl rfl rfl (by omega) (accB_ok rfl) (e_loadA t29 rfl rfl (by repeat (first | exact look_same | assumption | refine look_ne (by omega) ?_ | refine look_del (by omega) ?_ | refine look_keep (by assumption) (by omega) (by simp; try omega) ?_)) rfl rfl) ?_
        refine dN rfl rfl rfl (e_buildSlice rfl rfl (bsl22_0)) ?_
        refine dP rfl rfl rfl (e_fieldAddr t29 t22 rfl rfl) ?_
        refine dL rfl rfl rfl (by omega) (by repeat (first | exact trivial | refine And.intro (Or.inl rfl) ?_ | refine And.intro (Or.inr trivial) ?_ | refine And.intro (Or.inr (And.intro (Or.inl (by omega)) (by first | (simp; done) | (simp; omega)))) ?_ | refine And.intro (Or.inr (And.intro (Or.inr (by omega)) (by first | (simp; done) | (simp; omega)))) ?_ | refine And.intro (Or.inr (by simp [compat]; try omega)) ?_)) (e_load1 t22 rfl rfl (by repeat (first | exact look_same | assumption | refine look_ne (by omega) ?_ | refine look_del (by omega) ?_ | refine look_keep (by assumption) (by omega) (by simp; try omega) ?_)) rfl) ?_
        refine dP rfl rfl rfl (e_move rfl) ?_
        refine dP rfl rfl rfl (e_sliceHi (k) t22 t41 rfl rfl rfl (by omega)) ?_
        refine dA rfl rfl rfl rfl (app_any t22 t22 t41 rfl rfl (by repeat (first | exact look_same | assumption | refine look_ne (by omega) ?_ | refine look_del (by omega) ?_ | refine look_keep (by assumption) (by omega) (by simp; try omega) ?_ | refine look_hide (by omega) (by first | exact List.not_mem_nil | (simp [hidden, Nat.testBit]; done) | (simp [hidden, Nat.testBit]; omega)) ?_)) (take_subHi (by repeat (first | exact look_same | assumption | refine look_ne (by omega) ?_ | refine look_del (by omega) ?_ | refine look_keep (by assumption) (by omega) (by simp; try omega) ?_ | refine look_hide (by omega) (by first | exact List.not_mem_nil | (simp [hidden, Nat.testBit]; done) | (simp [hidden, Nat.testBit]; omega)) ?_)) hk) (by decide) (by first | rfl | (simp [flat_length]; done) | (simp [flat_length]; omega)) (by first | rfl | (simp [flat_length]; done) | (simp [flat_length]; omega)) (by omega) (by omega)) (by omega) (by first | exact List.not_mem_nil | (simp [hidden, Nat.testBit]; done) | (simp [hidden, Nat.testBit]; omega)) (by first | exact List.not_mem_nil | (simp [hidden, Nat.testBit]; done) | (simp [hidden, Nat.testBit]; omega)) (fun n' => (by repeat (first | exact trivial | refine And.intro (Or.inl rfl) ?_ | refine And.intro (Or.inr trivial) ?_ | refine And.intro (Or.inr (And.intro (Or.inl (by omega)) (by first | (simp; done) | (simp; omega)))) ?_ | refine And.intro (Or.inr (And.intro (Or.inr (by omega)) (by first | (simp; done) | (simp; omega)))) ?_ | refine And.intro (Or.inr (by simp [compat]; try omega)) ?_))) (fun p1 G1 n1 hp1 hk1 hn1 hl1 hb1 => ?_)
        refine dL rfl rfl rfl (by omega) (by repeat (first | exact trivial | refine And.intro (Or.inl rfl) ?_ | refine And.intro (Or.inr trivial) ?_ | refine And.intro (Or.inr (And.intro (Or.inl (by omega)) (by first | (simp; done) | (simp; omega)))) ?_ | refine And.intro (Or.inr (And.intro (Or.inr (by omega)) (by first | (simp; done) | (simp; omega)))) ?_ | refine And.intro (Or.inr (by simp [compat]; try omega)) ?_)) (e_loadA t41 rfl rfl (by repeat (first | exact look_same | assumption | refine look_ne (by omega) ?_ | refine look_del (by omega) ?_ | refine look_keep (by assumption) (by omega) (by simp; try omega) ?_)) rfl rfl) ?_
        refine dN rfl rfl rfl (e_buildSlice rfl rfl (bsl22_1)) ?_
        refine dA rfl rfl rfl rfl (app_any t22 t22 t41 rfl rfl (by repeat (first | exact look_same | assumption | refine look_ne (by omega) ?_ | refine look_del (by omega) ?_ | refine look_keep (by assumption) (by omega) (by simp; try omega) ?_ | refine look_hide (by omega) (by first | exact List.not_mem_nil | (simp [hidden, Nat.testBit]; done) | (simp [hidden, Nat.testBit]; omega)) ?_)) (take_row (m := 1) (by repeat (first | exact look_same | assumption | refine look_ne (by omega) ?_ | refine look_del (by omega) ?_ | refine look_keep (by assumption) (by omega) (by simp; try omega) ?_ | refine look_hide (by omega) (by first | exact List.not_mem_nil | (simp [hidden, Nat.testBit]; done) | (simp [hidden, Nat.testBit]; omega)) ?_)) rfl) (by decide) (by first | rfl | (simp [flat_length]; done) | (simp [flat_length]; omega)) (by first | rfl | (simp [flat_length]; done) | (simp [flat_length]; omega)) (by omega) (by omega)) (by omega) (by first | exact List.not_mem_nil | (simp [hidden, Nat.testBit]; done) | (simp [hidden, Nat.testBit]; omega)) (by first | exact List.not_mem_nil | (simp [hidden, Nat.testBit]; done) | (simp [hidden, Nat.testBit]; omega)) (fun n' => (by repeat (first | exact trivial | refine And.intro (Or.inl rfl) ?_ | refine And.intro (Or.inr trivial) ?_ | refine And.intro (Or.inr (And.intro (Or.inl (by omega)) (by first | (simp; done) | (simp; omega)))) ?_ | refine And.intro (Or.inr (And.intro (Or.inr (by omega)) (by first | (simp; done) | (simp; omega)))) ?_ | refine And.intro (Or.inr (by simp [compat]; try omega)) ?_))) (fun p2 G2 n2 hp2 hk2 hn2 hl2 hb2 => ?_)
        refine dP rfl rfl rfl (e_fieldAddr t29 t22 rfl rfl) ?_
        refine dL rfl rfl rfl (by omega) (by repeat (first | exact trivial | refine And.intro (Or.inl rfl) ?_ | refine And.intro (Or.inr trivial) ?_ | refine And.intro (Or.inr (And.intro (Or.inl (by omega)) (by first | (simp; done) | (simp; omega)))) ?_ | refine And.intro (Or.inr (And.intro (Or.inr (by omega)) (by first | (simp; done) | (simp; omega)))) ?_ | refine And.intro (Or.inr (by simp [compat]; try omega)) ?_)) (e_load1 t22 rfl rfl (by repeat (first | exact look_same | assumption | refine look_ne (by omega) ?_ | refine look_del (by omega) ?_ | refine look_keep (by assumption) (by omega) (by simp; try omega) ?_)) rfl) ?_
        refine dP rfl rfl rfl (e_move rfl) ?_
        refine dP rfl rfl rfl (e_sliceLo (k) t22 t41 rfl rfl rfl (by omega)) ?_
        refine dA rfl rfl rfl rfl (app_any t22 t22 t41 rfl rfl (by repeat (first | exact look_same | assumption | refine look_ne (by omega) ?_ | refine look_del (by omega) ?_ | refine look_keep (by assumption) (by omega) (by simp; try omega) ?_ | refine look_hide (by omega) (by first | exact List.not_mem_nil | (simp [hidden, Nat.testBit]; done) | (simp [hidden, Nat.testBit]; omega)) ?_)) (take_subLo (by repeat (first | exact look_same | assumption | refine look_ne (by omega) ?_ | refine look_del (by omega) ?_ | refine look_keep (by assumption) (by omega) (by simp; try omega) ?_ | refine look_hide (by omega) (by first | exact List.not_mem_nil | (simp [hidden, Nat.testBit]; done) | (simp [hidden, Nat.testBit]; omega)) ?_)) rfl hk) (by decide) (by first | rfl | (simp [flat_length]; done) | (simp [flat_length]; omega)) (by first | rfl | (simp [flat_length]; done) | (simp [flat_length]; omega)) (by omega) (by omega)) (by omega) (by first | exact List.not_mem_nil | (simp [hidden, Nat.testBit]; done) | (simp [hidden, Nat.testBit]; omega)) (by first | exact List.not_mem_nil | (simp [hidden, Nat.testBit]; done) | (simp [hidden, Nat.testBit]; omega)) (fun n' => (by repeat (first | exact trivial | refine And.intro (Or.inl rfl) ?_ | refine And.intro (Or.inr trivial) ?_ | refine And.intro (Or.inr (And.intro (Or.inl (by omega)) (by first | (simp; done) | (simp; omega)))) ?_ | refine And.intro (Or.inr (And.intro (Or.inr (by omega)) (by first | (simp; done) | (simp; omega)))) ?_ | refine And.intro (Or.inr (by simp [compat]; try omega)) ?_))) (fun p9 G9 n9 hp9 hk9 hn9 hl9 hb9 => ?_)
        refine dC rfl rfl rfl rfl (spec_l2Made_s _ _ _ _ _ _ _ _ (by omega)) (accB_ok rfl) ?_
        refine dSt rfl rfl (e_storeA t29 rfl rfl (by repeat (first | exact look_same | assumption | refine look_ne (by omega) ?_ | refine look_del (by omega) ?_ | refine look_keep (by assumption) (by omega) (by simp; try omega) ?_ | refine look_hide (by omega) (by first | exact List.not_mem_nil | (simp [hidden, Nat.testBit]; done) | (simp [hidden, Nat.testBit]; omega)) ?_)) rfl rfl rfl (by decide)) (by omega) (by first | exact List.not_mem_nil | (simp [hidden, Nat.testBit]; done) | (simp [hidden, Nat.testBit]; omega)) (accB_ok rfl) ?_
        refine dEnd (hK _ [(4, _)] _ _ rfl ?_)
        clear hK K
        refine W.ret ?_
        refine ⟨.inr rfl, Ends.v1 (p9) (by omega) (by repeat (first | exact self_old | assumption | refine set_old ?_ (by omega) | refine del_old ?_ (by omega) | refine keep_old (by assumption) ?_ (by omega) (by simp; try omega))) hfresh (by repeat (first | exact look_same | assumption | refine look_ne (by omega) ?_ | refine look_del (by omega) ?_ | refine look_keep (by assumption) (by omega) (by simp; try omega) ?_)) ?_ (by first | exact flat_plain _ | exact ints_plain _) (by simp [ltT, ltA, ltC, ltV]; try omega) (res1 (resC t29 rfl rfl (by repeat (first | exact look_same | assumption | refine look_ne (by omega) ?_ | refine look_del (by omega) ?_ | refine look_keep (by assumption) (by omega) (by simp; try omega) ?_)) rfl rfl) rfl) ?_⟩
        · (rw [withC_new hk hq h2 h3]; simp [flat_append, flat])
        · (rw [withC_new hk hq h2 h3]; simp [renT, renV, renC, renA, one]; omega)
  ·
    try simp only [decide_eq_true_eq, decide_eq_false_iff_not, Bool.not_eq_true', Bool.not_eq_false', Bool.not_eq_true, Bool.not_eq_false] at ha
    have h2 : k = cs.length ∨ before (at3 cs k) c = false := .inl (by omega)
    refine dS rfl rfl ?_
    refine dS rfl rfl ?_
    refine dS rfl rfl ?_
    refine dS rfl rfl ?_
    refine dS rfl rfl ?_
    refine dS rfl rfl ?_
    refine dS rfl rfl ?_
    refine dP rfl rfl rfl (e_pickF rfl rfl) ?_
    refine dEnd (hK _ [(2, _), (3, _), (4, _), (5, _), (19, _)] _ _ rfl ?_)
    clear hK K
    refine W.condF rfl ?_
    refine W.exit ?_
    refine thenE ?_
    refine thenE ?_
    refine blockX ?_
    refine thenN ?_
    refine W.seq ?_
    refine W.sD [2, 3, 4, 5, 35] [0, 0, 2, 6, 15, 31, 63, 127, 63, 511, 1023, 63, 4095, 8191] (by kernel_rfl) (by kernel_rfl) fun K hK => ?_
    refine dP rfl rfl rfl (e_move rfl) ?_
    refine dP rfl rfl rfl (e_fieldAddr t29 t22 rfl rfl) ?_
    refine dL rfl rfl rfl (by omega) (accB_ok rfl) (e_load1 t22 rfl rfl (by repeat (first | exact look_same | assumption | refine look_ne (by omega) ?_ | refine look_del (by omega) ?_ | refine look_keep (by assumption) (by omega) (by simp; try omega) ?_)) rfl) ?_
    refine dP rfl rfl rfl (e_len t22 rfl) ?_
    refine dP rfl rfl rfl (e_lss rfl rfl) ?_
    refine dP rfl rfl rfl (e_move rfl) ?_
    refine dB (fun hu => ?_) (fun hu => ?_)
    ·
      try simp only [decide_eq_true_eq, decide_eq_false_iff_not, Bool.not_eq_true', Bool.not_eq_false', Bool.not_eq_true, Bool.not_eq_false] at hu
      refine dP rfl rfl rfl (e_fieldAddr t29 t22 rfl rfl) ?_
      refine dL rfl rfl rfl (by omega) (accB_ok rfl) (e_load1 t22 rfl rfl (by repeat (first | exact look_same | assumption | refine look_ne (by omega) ?_ | refine look_del (by omega) ?_ | refine look_keep (by assumption) (by omega) (by simp; try omega) ?_)) rfl) ?_
      refine dP rfl rfl rfl (e_move rfl) ?_
      refine dP rfl rfl rfl (e_idxSK _ t22 t41 rfl rfl rfl (by first | omega | decide)) ?_
      refine dL rfl rfl rfl (by omega) (accB_ok rfl) (e_loadP t41 rfl rfl (by repeat (first | exact look_same | assumption | refine look_ne (by omega) ?_ | refine look_del (by omega) ?_ | refine look_keep (by assumption) (by omega) (by simp; try omega) ?_)) (flat_at (by omega))) ?_
      refine dL rfl rfl rfl (by omega) (accB_ok rfl) (e_loadA t41 rfl rfl (by repeat (first | exact look_same | assumption | refine look_ne (by omega) ?_ | refine look_del (by omega) ?_ | refine look_keep (by assumption) (by omega) (by simp; try omega) ?_)) rfl rfl) ?_
      refine dP rfl rfl rfl (e_eqA3 t41 t3 rfl rfl) ?_
      refine dP rfl rfl rfl (e_pickT rfl rfl) ?_
      refine dB (fun hz => ?_) (fun hz => ?_)
      ·
        try simp only [decide_eq_true_eq, decide_eq_false_iff_not, Bool.not_eq_true', Bool.not_eq_false', Bool.not_eq_true, Bool.not_eq_false] at hz
        have hwe : withC cs c = cs := withC_same (by omega) hq (by rw [hz]; exact before_irrefl c) hz
        refine dEnd (hK _ [(2, _), (3, _), (4, _), (5, _), (35, _)] _ _ rfl ?_)
        clear hK K
        refine W.condT rfl ?_
        refine W.sR [4] fun K hK => ?_
        refine st rfl rfl (e_loadA t29 rfl rfl (by repeat (first | exact look_same | assumption | refine look_ne (by omega) ?_ | refine look_del (by omega) ?_ | refine look_keep (by assumption) (by omega) (by simp; try omega) ?_)) rfl rfl) ?_
        refine stC rfl rfl rfl (spec_l2Own_s _ _ _ _ _ _ _ _ (by repeat (first | exact look_same | assumption | refine look_ne (by omega) ?_ | refine look_del (by omega) ?_ | refine look_keep (by assumption) (by omega) (by simp; try omega) ?_)) (by omega)) ?_
        refine stN rfl (e_storeA t29 rfl rfl (by repeat (first | exact look_same | assumption | refine look_ne (by omega) ?_ | refine look_del (by omega) ?_ | refine look_keep (by assumption) (by omega) (by simp; try omega) ?_)) rfl rfl rfl (by decide)) ?_
        refine stEnd (hK _ [(4, _)] _ _ rfl ?_)
        clear hK K
        refine W.ret ?_
        refine thenR ?_
        refine ⟨.inr rfl, Ends.v1 (μ) (by omega) (by repeat (first | exact self_old | assumption | refine set_old ?_ (by omega) | refine del_old ?_ (by omega) | refine keep_old (by assumption) ?_ (by omega) (by simp; try omega))) hfresh (by repeat (first | exact look_same | assumption | refine look_ne (by omega) ?_ | refine look_del (by omega) ?_ | refine look_keep (by assumption) (by omega) (by simp; try omega) ?_)) ?_ (by first | exact flat_plain _ | exact ints_plain _) (by simp [ltT, ltA, ltC, ltV]; try omega) (res1 (resC t29 rfl rfl (by repeat (first | exact look_same | assumption | refine look_ne (by omega) ?_ | refine look_del (by omega) ?_ | refine look_keep (by assumption) (by omega) (by simp; try omega) ?_)) rfl rfl) rfl) ?_⟩
        · rw [hwe]
        · simp [renT, renV, renC, renA, one, hwe]
      ·
        try simp only [decide_eq_true_eq, decide_eq_false_iff_not, Bool.not_eq_true', Bool.not_eq_false', Bool.not_eq_true, Bool.not_eq_false] at hz
        have h3 : k = cs.length ∨ ¬ at3 cs k = c := .inr hz
        refine dEnd (hK _ [(2, _), (3, _), (4, _), (5, _), (35, _)] _ _ rfl ?_)
        clear hK K
        refine W.condF rfl ?_
        refine W.skip ?_
        refine thenN ?_
        refine W.sD [4] [0, 0, 0, 4, 0, 28, 62, 0, 128, 510, 0, 1024, 0, 7168, 16382, 32767, 65535] (by kernel_rfl) (by kernel_rfl) fun K hK => ?_
        refine dL rfl rfl rfl (by omega) (accB_ok rfl) (e_loadA t29 rfl rfl (by repeat (first | exact look_same | assumption | refine look_ne (by omega) ?_ | refine look_del (by omega) ?_ | refine look_keep (by assumption) (by omega) (by simp; try omega) ?_)) rfl rfl) ?_
        refine dN rfl rfl rfl (e_buildSlice rfl rfl (bsl22_0)) ?_
        refine dP rfl rfl rfl (e_fieldAddr t29 t22 rfl rfl) ?_
        refine dL rfl rfl rfl (by omega) (by repeat (first | exact trivial | refine And.intro (Or.inl rfl) ?_ | refine And.intro (Or.inr trivial) ?_ | refine And.intro (Or.inr (And.intro (Or.inl (by omega)) (by first | (simp; done) | (simp; omega)))) ?_ | refine And.intro (Or.inr (And.intro (Or.inr (by omega)) (by first | (simp; done) | (simp; omega)))) ?_ | refine And.intro (Or.inr (by simp [compat]; try omega)) ?_)) (e_load1 t22 rfl rfl (by repeat (first | exact look_same | assumption | refine look_ne (by omega) ?_ | refine look_del (by omega) ?_ | refine look_keep (by assumption) (by omega) (by simp; try omega) ?_)) rfl) ?_
        refine dP rfl rfl rfl (e_move rfl) ?_
        refine dP rfl rfl rfl (e_sliceHi (k) t22 t41 rfl rfl rfl (by omega)) ?_
        refine dA rfl rfl rfl rfl (app_any t22 t22 t41 rfl rfl (by repeat (first | exact look_same | assumption | refine look_ne (by omega) ?_ | refine look_del (by omega) ?_ | refine look_keep (by assumption) (by omega) (by simp; try omega) ?_ | refine look_hide (by omega) (by first | exact List.not_mem_nil | (simp [hidden, Nat.testBit]; done) | (simp [hidden, Nat.testBit]; omega)) ?_)) (take_subHi (by repeat (first | exact look_same | assumption | refine look_ne (by omega) ?_ | refine look_del (by omega) ?_ | refine look_keep (by assumption) (by omega) (by simp; try omega) ?_ | refine look_hide (by omega) (by first | exact List.not_mem_nil | (simp [hidden, Nat.testBit]; done) | (simp [hidden, Nat.testBit]; omega)) ?_)) hk) (by decide) (by first | rfl | (simp [flat_length]; done) | (simp [flat_length]; omega)) (by first | rfl | (simp [flat_length]; done) | (simp [flat_length]; omega)) (by omega) (by omega)) (by omega) (by first | exact List.not_mem_nil | (simp [hidden, Nat.testBit]; done) | (simp [hidden, Nat.testBit]; omega)) (by first | exact List.not_mem_nil | (simp [hidden, Nat.testBit]; done) | (simp [hidden, Nat.testBit]; omega)) (fun n' => (by repeat (first | exact trivial | refine And.intro (Or.inl rfl) ?_ | refine And.intro (Or.inr trivial) ?_ | refine And.intro (Or.inr (And.intro (Or.inl (by omega)) (by first | (simp; done) | (simp; omega)))) ?_ | refine And.intro (Or.inr (And.intro (Or.inr (by omega)) (by first | (simp; done) | (simp; omega)))) ?_ | refine And.intro (Or.inr (by simp [compat]; try omega)) ?_))) (fun p1 G1 n1 hp1 hk1 hn1 hl1 hb1 => ?_)
        refine dL rfl rfl rfl (by omega) (by repeat (first | exact trivial | refine And.intro (Or.inl rfl) ?_ | refine And.intro (Or.inr trivial) ?_ | refine And.intro (Or.inr (And.intro (Or.inl (by omega)) (by first | (simp; done) | (simp; omega)))) ?_ | refine And.intro (Or.inr (And.intro (Or.inr (by omega)) (by first | (simp; done) | (simp; omega)))) ?_ | refine And.intro (Or.inr (by simp [compat]; try omega)) ?_)) (e_loadA t41 rfl rfl (by repeat (first | exact look_same | assumption | refine look_ne (by omega) ?_ | refine look_del (by omega) ?_ | refine look_keep (by assumption) (by omega) (by simp; try omega) ?_)) rfl rfl) ?_
        refine dN rfl rfl rfl (e_buildSlice rfl rfl (bsl22_1)) ?_
        refine dA rfl rfl rfl rfl (app_any t22 t22 t41 rfl rfl (by repeat (first | exact look_same | assumption | refine look_ne (by omega) ?_ | refine look_del (by omega) ?_ | refine look_keep (by assumption) (by omega) (by simp; try omega) ?_ | refine look_hide (by omega) (by first | exact List.not_mem_nil | (simp [hidden, Nat.testBit]; done) | (simp [hidden, Nat.testBit]; omega)) ?_)) (take_row (m := 1) (by repeat (first | exact look_same | assumption | refine look_ne (by omega) ?_ | refine look_del (by omega) ?_ | refine look_keep (by assumption) (by omega) (by simp; try omega) ?_ | refine look_hide (by omega) (by first | exact List.not_mem_nil | (simp [hidden, Nat.testBit]; done) | (simp [hidden, Nat.testBit]; omega)) ?_)) rfl) (by decide) (by first | rfl | (simp [flat_length]; done) | (simp [flat_length]; omega)) (by first | rfl | (simp [flat_length]; done) | (simp [flat_length]; omega)) (by omega) (by omega)) (by omega) (by first | exact List.not_mem_nil | (simp [hidden, Nat.testBit]; done) | (simp [hidden, Nat.testBit]; omega)) (by first | exact List.not_mem_nil | (simp [hidden, Nat.testBit]; done) | (simp [hidden, Nat.testBit]; omega)) (fun n' => (by repeat (first | exact trivial | refine And.intro (Or.inl rfl) ?_ | refine And.intro (Or.inr trivial) ?_ | refine And.intro (Or.inr (And.intro (Or.inl (by omega)) (by first | (simp; done) | (simp; omega)))) ?_ | refine And.intro (Or.inr (And.intro (Or.inr (by omega)) (by first | (simp; done) | (simp; omega)))) ?_ | refine And.intro (Or.inr (by simp [compat]; try omega)) ?_))) (fun p2 G2 n2 hp2 hk2 hn2 hl2 hb2 => ?_)
        refine dP rfl rfl rfl (e_fieldAddr t29 t22 rfl rfl) ?_
        refine dL rfl rfl rfl (by omega) (by repeat (first | exact trivial | refine And.intro (Or.inl rfl) ?_ | refine And.intro (Or.inr trivial) ?_ | refine And.intro (Or.inr (And.intro (Or.inl (by omega)) (by first | (simp; done) | (simp; omega)))) ?_ | refine And.intro (Or.inr (And.intro (Or.inr (by omega)) (by first | (simp; done) | (simp; omega)))) ?_ | refine And.intro (Or.inr (by simp [compat]; try omega)) ?_)) (e_load1 t22 rfl rfl (by repeat (first | exact look_same | assumption | refine look_ne (by omega) ?_ | refine look_del (by omega) ?_ | refine look_keep (by assumption) (by omega) (by simp; try omega) ?_)) rfl) ?_
        refine dP rfl rfl rfl (e_move rfl) ?_
        refine dP rfl rfl rfl (e_sliceLo (k) t22 t41 rfl rfl rfl (by omega)) ?_
        refine dA rfl rfl rfl rfl (app_any t22 t22 t41 rfl rfl (by repeat (first | exact look_same | assumption | refine look_ne (by omega) ?_ | refine look_del (by omega) ?_ | refine look_keep (by assumption) (by omega) (by simp; try omega) ?_ | refine look_hide (by omega) (by first | exact List.not_mem_nil | (simp [hidden, Nat.testBit]; done) | (simp [hidden, Nat.testBit]; omega)) ?_)) (take_subLo (by repeat (first | exact look_same | assumption | refine look_ne (by omega) ?_ | refine look_del (by omega) ?_ | refine look_keep (by assumption) (by omega) (by simp; try omega) ?_ | refine look_hide (by omega) (by first | exact List.not_mem_nil | (simp [hidden, Nat.testBit]; done) | (simp [hidden, Nat.testBit]; omega)) ?_)) rfl hk) (by decide) (by first | rfl | (simp [flat_length]; done) | (simp [flat_length]; omega)) (by first | rfl | (simp [flat_length]; done) | (simp [flat_length]; omega)) (by omega) (by omega)) (by omega) (by first | exact List.not_mem_nil | (simp [hidden, Nat.testBit]; done) | (simp [hidden, Nat.testBit]; omega)) (by first | exact List.not_mem_nil | (simp [hidden, Nat.testBit]; done) | (simp [hidden, Nat.testBit]; omega)) (fun n' => (by repeat (first | exact trivial | refine And.intro (Or.inl rfl) ?_ | refine And.intro (Or.inr trivial) ?_ | refine And.intro (Or.inr (And.intro (Or.inl (by omega)) (by first | (simp; done) | (simp; omega)))) ?_ | refine And.intro (Or.inr (And.intro (Or.inr (by omega)) (by first | (simp; done) | (simp; omega)))) ?_ | refine And.intro (Or.inr (by simp [compat]; try omega)) ?_))) (fun p9 G9 n9 hp9 hk9 hn9 hl9 hb9 => ?_)
        refine dC rfl rfl rfl rfl (spec_l2Made_s _ _ _ _ _ _ _ _ (by omega)) (accB_ok rfl) ?_
        refine dSt rfl rfl (e_storeA t29 rfl rfl (by repeat (first | exact look_same | assumption | refine look_ne (by omega) ?_ | refine look_del (by omega) ?_ | refine look_keep (by assumption) (by omega) (by simp; try omega) ?_ | refine look_hide (by omega) (by first | exact List.not_mem_nil | (simp [hidden, Nat.testBit]; done) | (simp [hidden, Nat.testBit]; omega)) ?_)) rfl rfl rfl (by decide)) (by omega) (by first | exact List.not_mem_nil | (simp [hidden, Nat.testBit]; done) | (simp [hidden, Nat.testBit]; omega)) (accB_ok rfl) ?_
        refine dEnd (hK _ [(4, _)] _ _ rfl ?_)
        clear hK K
        refine W.ret ?_
        refine ⟨.inr rfl, Ends.v1 (p9) (by omega) (by repeat (first | exact self_old | assumption | refine set_old ?_ (by omega) | refine del_old ?_ (by omega) | refine keep_old (by assumption) ?_ (by omega) (by simp; try omega))) hfresh (by repeat (first | exact look_same | assumption | refine look_ne (by omega) ?_ | refine look_del (by omega) ?_ | refine look_keep (by assumption) (by omega) (by simp; try omega) ?_)) ?_ (by first | exact flat_plain _ | exact ints_plain _) (by simp [ltT, ltA, ltC, ltV]; try omega) (res1 (resC t29 rfl rfl (by repeat (first | exact look_same | assumption | refine look_ne (by omega) ?_ | refine look_del (by omega) ?_ | refine look_keep (by assumption) (by omega) (by simp; try omega) ?_)) rfl rfl) rfl) ?_⟩
        · (rw [withC_new hk hq h2 h3]; simp [flat_append, flat])
        · (rw [withC_new hk hq h2 h3]; simp [renT, renV, renC, renA, one]; omega)
    ·
      try simp only [decide_eq_true_eq, decide_eq_false_iff_not, Bool.not_eq_true', Bool.not_eq_false', Bool.not_eq_true, Bool.not_eq_false] at hu
      have h3 : k = cs.length ∨ ¬ at3 cs k = c := .inl (by omega)
      refine dS rfl rfl ?_
      refine dS rfl rfl ?_
      refine dS rfl rfl ?_
      refine dS rfl rfl ?_
      refine dS rfl rfl ?_
      refine dS rfl rfl ?_
      refine dS rfl rfl ?_
      refine dP rfl rfl rfl (e_pickF rfl rfl) ?_
      refine dEnd (hK _ [(2, _), (3, _), (4, _), (5, _), (35, _)] _ _ rfl ?_)
      clear hK K
      refine W.condF rfl ?_
      refine W.skip ?_
      refine thenN ?_
      refine W.sD [4] [0, 0, 0, 4, 0, 28, 62, 0, 128, 510, 0, 1024, 0, 7168, 16382, 32767, 65535] (by kernel_rfl) (by kernel_rfl) fun K hK => ?_
      refine dL rfl rfl rfl (by omega) (accB_ok rfl) (e_loadA t29 rfl rfl (by repeat (first | exact look_same | assumption | refine look_ne (by omega) ?_ | refine look_del (by omega) ?_ | refine look_keep (by assumption) (by omega) (by simp; try omega) ?_)) rfl rfl) ?_
      refine dN rfl rfl rfl (e_buildSlice rfl rfl (bsl22_0)) ?_
      refine dP rfl rfl rfl (e_fieldAddr t29 t22 rfl rfl) ?_
      refine dL rfl rfl rfl (by omega) (by repeat (first | exact trivial | refine And.intro (Or.inl rfl) ?_ | refine And.intro (Or.inr trivial) ?_ | refine And.intro (Or.inr (And.intro (Or.inl (by omega)) (by first | (simp; done) | (simp; omega)))) ?_ | refine And.intro (Or.inr (And.intro (Or.inr (by omega)) (by first | (simp; done) | (simp; omega)))) ?_ | refine And.intro (Or.inr (by simp [compat]; try omega)) ?_)) (e_load1 t22 rfl rfl (by repeat (first | exact look_same | assumption | refine look_ne (by omega) ?_ | refine look_del (by omega) ?_ | refine look_keep (by assumption) (by omega) (by simp; try omega) ?_)) rfl) ?_
      refine dP rfl rfl rfl (e_move rfl) ?_
      refine dP rfl rfl rfl (e_sliceHi (k) t22 t41 rfl rfl rfl (by omega)) ?_
      refine dA rfl rfl rfl rfl (app_any t22 t22 t41 rfl rfl (by repeat (first | exact look_same | assumption | refine look_ne (by omega) ?_ | refine look_del (by omega) ?_ | refine look_keep (by assumption) (by omega) (by simp; try omega) ?_ | refine look_hide (by omega) (by first | exact List.not_mem_nil | (simp [hidden, Nat.testBit]; done) | (simp [hidden, Nat.testBit]; omega)) ?_)) (take_subHi (by repeat (first | exact look_same | assumption | refine look_ne (by omega) ?_ | refine look_del (by omega) ?_ | refine look_keep (by assumption) (by omega) (by simp; try omega) ?_ | refine look_hide (by omega) (by first | exact List.not_mem_nil | (simp [hidden, Nat.testBit]; done) | (simp [hidden, Nat.testBit]; omega)) ?_)) hk) (by decide) (by first | rfl | (simp [flat_length]; done) | (simp [flat_length]; omega)) (by first | rfl | (simp [flat_length]; done) | (simp [flat_length]; omega)) (by omega) (by omega)) (by omega) (by first | exact List.not_mem_nil | (simp [hidden, Nat.testBit]; done) | (simp [hidden, Nat.testBit]; omega)) (by first | exact List.not_mem_nil | (simp [hidden, Nat.testBit]; done) | (simp [hidden, Nat.testBit]; omega)) (fun n' => (by repeat (first | exact trivial | refine And.intro (Or.inl rfl) ?_ | refine And.intro (Or.inr trivial) ?_ | refine And.intro (Or.inr (And.intro (Or.inl (by omega)) (by first | (simp; done) | (simp; omega)))) ?_ | refine And.intro (Or.inr (And.intro (Or.inr (by omega)) (by first | (simp; done) | (simp; omega)))) ?_ | refine And.intro (Or.inr (by simp [compat]; try omega)) ?_))) (fun p1 G1 n1 hp1 hk1 hn1 hl1 hb1 => ?_)
      refine dL rfl rfl rfl (by omega) (by repeat (first | exact trivial | refine And.intro (Or.inl rfl) ?_ | refine And.intro (Or.inr trivial) ?_ | refine And.intro (Or.inr (And.intro (Or.inl (by omega)) (by first | (simp; done) | (simp; omega)))) ?_ | refine And.intro (Or.inr (And.intro (Or.inr (by omega)) (by first | (simp; done) | (simp; omega)))) ?_ | refine And.intro (Or.inr (by simp [compat]; try omega)) ?_)) (e_loadA t41 rfl rfl (by repeat (first | exact look_same | assumption | refine look_ne (by omega) ?_ | refine look_del (by omega) ?_ | refine look_keep (by assumption) (by omega) (by simp; try omega) ?_)) rfl rfl) ?_
      refine dN rfl rfl rfl (e_buildSlice rfl rfl (bsl22_1)) ?_
      refine dA rfl rfl rfl rfl (app_any t22 t22 t41 rfl rfl (by repeat (first | exact look_same | assumption | refine look_ne (by omega) ?_ | refine look_del (by omega) ?_ | refine look_keep (by assumption) (by omega) (by simp; try omega) ?_ | refine look_hide (by omega) (by first | exact List.not_mem_nil | (simp [hidden, Nat.testBit]; done) | (simp [hidden, Nat.testBit]; omega)) ?_)) (take_row (m := 1) (by repeat (first | exact look_same | assumption | refine look_ne (by omega) ?_ | refine look_del (by omega) ?_ | refine look_keep (by assumption) (by omega) (by simp; try omega) ?_ | refine look_hide (by omega) (by first | exact List.not_mem_nil | (simp [hidden, Nat.testBit]; done) | (simp [hidden, Nat.testBit]; omega)) ?_)) rfl) (by decide) (by first | rfl | (simp [flat_length]; done) | (simp [flat_length]; omega)) (by first | rfl | (simp [flat_length]; done) | (simp [flat_length]; omega)) (by omega) (by omega)) (by omega) (by first | exact List.not_mem_nil | (simp [hidden, Nat.testBit]; done) | (simp [hidden, Nat.testBit]; omega)) (by first | exact List.not_mem_nil | (simp [hidden, Nat.testBit]; done) | (simp [hidden, Nat.testBit]; omega)) (fun n' => (by repeat (first | exact trivial | refine And.intro (Or.inl rfl) ?_ | refine And.intro (Or.inr trivial) ?_ | refine And.intro (Or.inr (And.intro (Or.inl (by omega)) (by first | (simp; done) | (simp; omega)))) ?_ | refine And.intro (Or.inr (And.intro (Or.inr (by omega)) (by first | (simp; done) | (simp; omega)))) ?_ | refine And.intro (Or.inr (by simp [compat]; try omega)) ?_))) (fun p2 G2 n2 hp2 hk2 hn2 hl2 hb2 => ?_)
      refine dP rfl rfl rfl (e_fieldAddr t29 t22 rfl rfl) ?_
      refine dL rfl rfl rfl (by omega) (by repeat (first | exact trivial | refine And.intro (Or.inl rfl) ?_ | refine And.intro (Or.inr trivial) ?_ | refine And.intro (Or.inr (And.intro (Or.inl (by omega)) (by first | (simp; done) | (simp; omega)))) ?_ | refine And.intro (Or.inr (And.intro (Or.inr (by omega)) (by first | (simp; done) | (simp; omega)))) ?_ | refine And.intro (Or.inr (by simp [compat]; try omega)) ?_)) (e_load1 t22 rfl rfl (by repeat (first | exact look_same | assumption | refine look_ne (by omega) ?_ | refine look_del (by omega) ?_ | refine look_keep (by assumption) (by omega) (by simp; try omega) ?_)) rfl) ?_
      refine dP rfl rfl rfl (e_move rfl) ?_
      refine dP rfl rfl rfl (e_sliceLo (k) t22 t41 rfl rfl rfl (by omega)) ?_
      refine dA rfl rfl rfl rfl (app_any t22 t22 t41 rfl rfl (by repeat (first | exact look_same | assumption | refine look_ne (by omega) ?_ | refine look_del (by omega) ?_ | refine look_keep (by assumption) (by omega) (by simp; try omega) ?_ | refine look_hide (by omega) (by first | exact List.not_mem_nil | (simp [hidden, Nat.testBit]; done) | (simp [hidden, Nat.testBit]; omega)) ?_)) (take_subLo (by repeat (first | exact look_same | assumption | refine look_ne (by omega) ?_ | refine look_del (by omega) ?_ | refine look_keep (by assumption) (by omega) (by simp; try omega) ?_ | refine look_hide (by omega) (by first | exact List.not_mem_nil | (simp [hidden, Nat.testBit]; done) | (simp [hidden, Nat.testBit]; omega)) ?_)) rfl hk) (by decide) (by first | rfl | (simp [flat_length]; done) | (simp [flat_length]; omega)) (by first | rfl | (simp [flat_length]; done) | (simp [flat_length]; omega)) (by omega) (by omega)) (by omega) (by first | exact List.not_mem_nil | (simp [hidden, Nat.testBit]; done) | (simp [hidden, Nat.testBit]; omega)) (by first | exact List.not_mem_nil | (simp [hidden, Nat.testBit]; done) | (simp [hidden, Nat.testBit]; omega)) (fun n' => (by repeat (first | exact trivial | refine And.intro (Or.inl rfl) ?_ | refine And.intro (Or.inr trivial) ?_ | refine And.intro (Or.inr (And.intro (Or.inl (by omega)) (by first | (simp; done) | (simp; omega)))) ?_ | refine And.intro (Or.inr (And.intro (Or.inr (by omega)) (by first | (simp; done) | (simp; omega)))) ?_ | refine And.intro (Or.inr (by simp [compat]; try omega)) ?_))) (fun p9 G9 n9 hp9 hk9 hn9 hl9 hb9 => ?_)
      refine dC rfl rfl rfl rfl (spec_l2Made_s _ _ _ _ _ _ _ _ (by omega)) (accB_ok rfl) ?_
      refine dSt rfl rfl (e_storeA t29 rfl rfl (by repeat (first | exact look_same | assumption | refine look_ne (by omega) ?_ | refine look_del (by omega) ?_ | refine look_keep (by assumption) (by omega) (by simp; try omega) ?_ | refine look_hide (by omega) (by first | exact List.not_mem_nil | (simp [hidden, Nat.testBit]; done) | (simp [hidden, Nat.testBit]; omega)) ?_)) rfl rfl rfl (by decide)) (by omega) (by first | exact List.not_mem_nil | (simp [hidden, Nat.testBit]; done) | (simp [hidden, Nat.testBit]; omega)) (accB_ok rfl) ?_
      refine dEnd (hK _ [(4, _)] _ _ rfl ?_)
      clear hK K
      refine W.ret ?_
      refine ⟨.inr rfl, Ends.v1 (p9) (by omega) (by repeat (first | exact self_old | assumption | refine set_old ?_ (by omega) | refine del_old ?_ (by omega) | refine keep_old (by assumption) ?_ (by omega) (by simp; try omega))) hfresh (by repeat (first | exact look_same | assumption | refine look_ne (by omega) ?_ | refine look_del (by omega) ?_ | refine look_keep (by assumption) (by omega) (by simp; try omega) ?_)) ?_ (by first | exact flat_plain _ | exact ints_plain _) (by simp [ltT, ltA, ltC, ltV]; try omega) (res1 (resC t29 rfl rfl (by repeat (first | exact look_same | assumption | refine look_ne (by omega) ?_ | refine look_del (by omega) ?_ | refine look_keep (by assumption) (by omega) (by simp; try omega) ?_)) rfl rfl) rfl) ?_⟩
      · (rw [withC_new hk hq h2 h3]; simp [flat_append, flat])
      · (rw [withC_new hk hq h2 h3]; simp [renT, renV, renC, renA, one]; omega)
theorem spec_l2Swapped_s (X Y Z : Int) (b : Nat) (ro : Bool) (cs : List C) (p q : Nat) (H : Heap) (n : Nat) (hb : H b = some (.cells ro (flat cs))) (hlen : cs.length ≤ 1048576) (hp : p < 3) (hq : q < 3) : Fn Try.prog 65 [.agg #[.int .i64 X, .int .i64 Y, .int .i64 Z, .slice (some ⟨b, 0, none⟩) cs.length 3], .int .i64 (p : Nat), .int .i64 (q : Nat)] H n (.agg #[.int .i64 (swp p q (X, Y, Z)).1, .int .i64 (swp p q (X, Y, Z)).2.1, .int .i64 (swp p q (X, Y, Z)).2.2, .slice (some ⟨n, 0, none⟩) (withN (swp p q) cs cs.length).length 3]) (H.set n (.cells false (flat (withN (swp p q) cs cs.length)))) (n + 1) := by
  refine Fn.intro' Try.func65 rfl (by kernel_rfl) Try.ntmps65 (by simp) (by omega) fun hfresh => ?_
  have lt_hb := lt_fresh hfresh hb
  show W _ _ _ ⟨[(0, _), (1, _), (2, _)], _, _⟩ _
  refine W.sR [1, 2, 3, 6] fun K hK => ?_
  refine st rfl rfl (e_boxA rfl) ?_
  refine st rfl rfl (e_alloc t29 rfl) ?_
  refine stEnd (hK _ [(1, _), (2, _), (3, _), (6, _)] _ _ rfl ?_)
  clear hK K
  refine W.sD [1, 2, 3, 6, 7, 8] [0, 1, 0, 4, 0, 16, 63, 0, 128, 0, 512, 0, 2048, 8064, 0, 0, 49279, 131071] (by kernel_rfl) (by kernel_rfl) fun K hK => ?_
  refine dP rfl rfl rfl (e_fieldAddr t29 t3 rfl rfl) ?_
  refine dL rfl rfl rfl (by omega) (accB_ok rfl) (e_load1 t3 rfl rfl (by repeat (first | exact look_same | assumption | refine look_ne (by omega) ?_ | refine look_keep (by assumption) (by omega) (by simp; try omega) ?_)) rfl) ?_
  refine dP rfl rfl rfl (e_fieldAddr t29 t3 rfl rfl) ?_
  refine dL rfl rfl rfl (by omega) (accB_ok rfl) (e_load1 t3 rfl rfl (by repeat (first | exact look_same | assumption | refine look_ne (by omega) ?_ | refine look_keep (by assumption) (by omega) (by simp; try omega) ?_)) rfl) ?_
  refine dP rfl rfl rfl (e_fieldAddr t29 t3 rfl rfl) ?_
  refine dL rfl rfl rfl (by omega) (accB_ok rfl) (e_load1 t3 rfl rfl (by repeat (first | exact look_same | assumption | refine look_ne (by omega) ?_ | refine look_keep (by assumption) (by omega) (by simp; try omega) ?_)) rfl) ?_
  refine dP rfl rfl rfl (e_build rfl rfl (bld41_0_1_2 _ _ _ rfl rfl rfl)) ?_
  refine dP rfl rfl rfl (e_fieldAddr t29 t3 rfl rfl) ?_
  refine dL rfl rfl rfl (by omega) (accB_ok rfl) (e_load1 t3 rfl rfl (by repeat (first | exact look_same | assumption | refine look_ne (by omega) ?_ | refine look_keep (by assumption) (by omega) (by simp; try omega) ?_)) rfl) ?_
  refine dP rfl rfl rfl (e_fieldAddr t29 t3 rfl rfl) ?_
  refine dL rfl rfl rfl (by omega) (accB_ok rfl) (e_load1 t3 rfl rfl (by repeat (first | exact look_same | assumption | refine look_ne (by omega) ?_ | refine look_keep (by assumption) (by omega) (by simp; try omega) ?_)) rfl) ?_
  refine dP rfl rfl rfl (e_fieldAddr t29 t3 rfl rfl) ?_
  refine dL rfl rfl rfl (by omega) (accB_ok rfl) (e_load1 t3 rfl rfl (by repeat (first | exact look_same | assumption | refine look_ne (by omega) ?_ | refine look_keep (by assumption) (by omega) (by simp; try omega) ?_)) rfl) ?_
  refine dP rfl rfl rfl (e_build rfl rfl (bld41_0_1_2 _ _ _ rfl rfl rfl)) ?_
  refine dN rfl rfl rfl (e_alloc t41 rfl) ?_
  refine dN rfl rfl rfl (e_alloc t41 rfl) ?_
  refine dSt rfl rfl (e_storeA t41 rfl rfl (by repeat (first | exact look_same | assumption | refine look_ne (by omega) ?_ | refine look_keep (by assumption) (by omega) (by simp; try omega) ?_ | refine look_hide (by omega) (by first | exact List.not_mem_nil | (simp [hidden, Nat.testBit]; done) | (simp [hidden, Nat.testBit]; omega)) ?_)) rfl rfl rfl (by decide)) (by omega) (by first | exact List.not_mem_nil | (simp [hidden, Nat.testBit]; done) | (simp [hidden, Nat.testBit]; omega)) (by repeat (first | exact trivial | refine And.intro (Or.inl rfl) ?_ | refine And.intro (Or.inr trivial) ?_ | refine And.intro (Or.inr (And.intro (Or.inl (by omega)) (by first | (simp; done) | (simp; omega)))) ?_ | refine And.intro (Or.inr (And.intro (Or.inr (by omega)) (by first | (simp; done) | (simp; omega)))) ?_ | refine And.intro (Or.inr (by simp [compat]; try omega)) ?_)) ?_
  refine dSt rfl rfl (e_storeA t41 rfl rfl (by repeat (first | exact look_same | assumption | refine look_ne (by omega) ?_ | refine look_keep (by assumption) (by omega) (by simp; try omega) ?_ | refine look_hide (by omega) (by first | exact List.not_mem_nil | (simp [hidden, Nat.testBit]; done) | (simp [hidden, Nat.testBit]; omega)) ?_)) rfl rfl rfl (by decide)) (by omega) (by first | exact List.not_mem_nil | (simp [hidden, Nat.testBit]; done) | (simp [hidden, Nat.testBit]; omega)) (accB_ok rfl) ?_
  refine dEnd (hK _ [(1, _), (2, _), (3, _), (6, _), (7, _), (8, _)] _ _ rfl ?_)
  clear hK K
  refine W.sR [1, 2, 3, 6, 7, 8] fun K hK => ?_
  refine st rfl rfl (e_move rfl) ?_
  refine st rfl rfl (e_move rfl) ?_
  refine st rfl rfl (e_idxAK _ t41 t3 rfl rfl rfl (by first | omega | decide)) ?_
  refine st rfl rfl (e_load1 t3 rfl rfl (by repeat (first | exact look_same | assumption | refine look_ne (by omega) ?_ | refine look_keep (by assumption) (by omega) (by simp; try omega) ?_)) (by first | rfl | exact tri_getL (by omega))) ?_
  refine st rfl rfl (e_idxAK _ t41 t3 rfl rfl rfl (by first | omega | decide)) ?_
  refine stN rfl (e_store1 t3 rfl rfl rfl (by repeat (first | exact look_same | assumption | refine look_ne (by omega) ?_ | refine look_keep (by assumption) (by omega) (by simp; try omega) ?_)) (by first | decide | (simp only [ints_length, flat_length]; omega) | (simp; done) | (simp; omega))) ?_
  refine stEnd (hK _ [(1, _), (2, _), (3, _), (6, _), (7, _), (8, _)] _ _ rfl ?_)
  clear hK K
  refine W.sR [1, 2, 3, 6, 7] fun K hK => ?_
  refine st rfl rfl (e_move rfl) ?_
  refine st rfl rfl (e_move rfl) ?_
  refine st rfl rfl (e_idxAK _ t41 t3 rfl rfl rfl (by first | omega | decide)) ?_
  refine st rfl rfl (e_load1 t3 rfl rfl (by repeat (first | exact look_same | assumption | refine look_ne (by omega) ?_ | refine look_keep (by assumption) (by omega) (by simp; try omega) ?_)) (by first | rfl | exact tri_getL (by omega))) ?_
  refine st rfl rfl (e_idxAK _ t41 t3 rfl rfl rfl (by first | omega | decide)) ?_
  refine stN rfl (e_store1 t3 rfl rfl rfl (by repeat (first | exact look_same | assumption | refine look_ne (by omega) ?_ | refine look_keep (by assumption) (by omega) (by simp; try omega) ?_)) (by first | decide | (simp only [ints_length, flat_length]; omega) | (simp; done) | (simp; omega))) ?_
  refine stEnd (hK _ [(1, _), (2, _), (3, _), (6, _), (7, _)] _ _ rfl ?_)
  clear hK K
  rw [swap_list hp hq]
  refine W.sR [1, 2, 3, 6, 9] fun K hK => ?_
  refine st rfl rfl (e_idxAK (0) t41 t3 rfl rfl (by first | rfl | omega) (by first | omega | decide)) ?_
  refine st rfl rfl (e_load1 t3 rfl rfl (by repeat (first | exact look_same | assumption | refine look_ne (by omega) ?_ | refine look_keep (by assumption) (by omega) (by simp; try omega) ?_)) (by first | rfl | exact tri_getL (by omega))) ?_
  refine st rfl rfl (e_idxAK (1) t41 t3 rfl rfl (by first | rfl | omega) (by first | omega | decide)) ?_
  refine st rfl rfl (e_load1 t3 rfl rfl (by repeat (first | exact look_same | assumption | refine look_ne (by omega) ?_ | refine look_keep (by assumption) (by omega) (by simp; try omega) ?_)) (by first | rfl | exact tri_getL (by omega))) ?_
  refine st rfl rfl (e_idxAK (2) t41 t3 rfl rfl (by first | rfl | omega) (by first | omega | decide)) ?_
  refine st rfl rfl (e_load1 t3 rfl rfl (by repeat (first | exact look_same | assumption | refine look_ne (by omega) ?_ | refine look_keep (by assumption) (by omega) (by simp; try omega) ?_)) (by first | rfl | exact tri_getL (by omega))) ?_
  refine stC rfl rfl rfl (spec_l2Empty_s _ _ _ _ _ ) ?_
  refine st rfl rfl (e_alloc t29 rfl) ?_
  refine stN rfl (e_storeA t29 rfl rfl (by repeat (first | exact look_same | assumption | refine look_ne (by omega) ?_ | refine look_keep (by assumption) (by omega) (by simp; try omega) ?_)) rfl rfl rfl (by decide)) ?_
  refine stEnd (hK _ [(1, _), (2, _), (3, _), (6, _), (9, _)] _ _ rfl ?_)
  clear hK K
  refine W.seq ?_
  refine W.sR [1, 2, 3, 6, 9, 10] fun K hK => ?_
  refine st rfl rfl (e_assign rfl) ?_
  refine stEnd (hK _ [(1, _), (2, _), (3, _), (6, _), (9, _), (10, _)] _ _ rfl ?_)
  clear hK K
  refine W.block ?_
  refine W.ord [10, 1, 2, 3, 6, 9] (ts' := [(10, _)] ++ [(1, _), (2, _), (3, _), (6, _), (9, _)]) rfl ?_
  refine W.loopC [(10, _)] [n + 1 + 1 + 1 + 1 + 1] (fun κ V G μ => ∃ i r : Nat, V = [(10, .int .i64 (i : Nat))] ∧ κ = cs.length - i ∧ (i ≤ cs.length) ∧ ((r = n + 1 + 1 + 1 + 1 ∨ n + 1 + 1 + 1 + 1 + 1 + 1 ≤ r) ∧ r < μ) ∧ (G (n + 1 + 1 + 1 + 1 + 1) = some (.cells false [.int .i64 (swp p q (X, Y, Z)).1, .int .i64 (swp p q (X, Y, Z)).2.1, .int .i64 (swp p q (X, Y, Z)).2.2, .slice (some ⟨r, 0, none⟩) (withN (swp p q) cs i).length 3])) ∧ (G r = some (.cells false (flat (withN (swp p q) cs i))))) _ ⟨0, n + 1 + 1 + 1 + 1, rfl, rfl, (by first | omega | assumption | rfl | simp_all), (by omega), look_same, (by repeat (first | exact look_same | assumption | refine look_ne (by omega) ?_ | refine look_keep (by assumption) (by omega) (by simp; try omega) ?_))⟩ fun κ V G μ hinv hμ hkeep hfr => ?_
  obtain ⟨i, r, rfl, rfl, hi, hr, hG, hG2⟩ := hinv
  refine W.seq ?_
  refine W.sR [1, 2, 3, 6, 9, 10, 47] fun K hK => ?_
  refine st rfl rfl (e_move rfl) ?_
  refine st rfl rfl (e_fieldAddr t29 t22 rfl rfl) ?_
  refine st rfl rfl (e_load1 t22 rfl rfl (by repeat (first | exact look_same | assumption | refine look_ne (by omega) ?_ | refine look_keep (by assumption) (by omega) (by simp; try omega) ?_)) rfl) ?_
  refine st rfl rfl (e_len t22 rfl) ?_
  refine st rfl rfl (e_lss rfl rfl) ?_
  refine stB (fun hb1 => ?_) (fun hb1 => ?_)
  ·
    try simp only [decide_eq_true_eq, decide_eq_false_iff_not, Bool.not_eq_true', Bool.not_eq_false', Bool.not_eq_true, Bool.not_eq_false] at hb1
    refine stEnd (hK _ [(1, _), (2, _), (3, _), (6, _), (9, _), (10, _), (47, _)] _ _ rfl ?_)
    clear hK K
    refine W.condT rfl ?_
    refine W.skip ?_
    refine thenN ?_
    refine W.seq ?_
    refine W.block ?_
    refine W.sR [1, 2, 3, 6, 9, 10, 11] fun K hK => ?_
    refine st rfl rfl (e_fieldAddr t29 t22 rfl rfl) ?_
    refine st rfl rfl (e_load1 t22 rfl rfl (by repeat (first | exact look_same | assumption | refine look_ne (by omega) ?_ | refine look_keep (by assumption) (by omega) (by simp; try omega) ?_)) rfl) ?_
    refine st rfl rfl (e_move rfl) ?_
    refine st rfl rfl (e_idxSK _ t22 t41 rfl rfl rfl (by first | omega | decide)) ?_
    refine st rfl rfl (e_loadP t41 rfl rfl (by repeat (first | exact look_same | assumption | refine look_ne (by omega) ?_ | refine look_keep (by assumption) (by omega) (by simp; try omega) ?_)) (flat_at (by omega))) ?_
    refine st rfl rfl (e_alloc t41 rfl) ?_
    refine stN rfl (e_storeA t41 rfl rfl (by repeat (first | exact look_same | assumption | refine look_ne (by omega) ?_ | refine look_keep (by assumption) (by omega) (by simp; try omega) ?_)) rfl rfl rfl (by decide)) ?_
    refine stEnd (hK _ [(1, _), (2, _), (3, _), (6, _), (9, _), (10, _), (11, _)] _ _ rfl ?_)
    clear hK K
    refine W.sR [1, 2, 3, 6, 9, 10, 11] fun K hK => ?_
    refine st rfl rfl (e_move rfl) ?_
    refine st rfl rfl (e_fieldAddr t29 t22 rfl rfl) ?_
    refine st rfl rfl (e_load1 t22 rfl rfl (by repeat (first | exact look_same | assumption | refine look_ne (by omega) ?_ | refine look_keep (by assumption) (by omega) (by simp; try omega) ?_)) rfl) ?_
    refine st rfl rfl (e_move rfl) ?_
    refine st rfl rfl (e_move rfl) ?_
    refine st rfl rfl (e_idxSK _ t22 t41 rfl rfl rfl (by first | omega | decide)) ?_
    refine st rfl rfl (e_idxAK _ t41 t3 rfl rfl rfl (by first | omega | decide)) ?_
    refine st rfl rfl (e_load1 t3 rfl rfl (by repeat (first | exact look_same | assumption | refine look_ne (by omega) ?_ | refine look_keep (by assumption) (by omega) (by simp; try omega) ?_)) (by first | exact (flat_get (by omega) (by omega)).trans rfl | exact flat_getJ (by omega) (by omega))) ?_
    refine st rfl rfl (e_idxAK _ t41 t3 rfl rfl rfl (by first | omega | decide)) ?_
    refine stN rfl (e_store1 t3 rfl rfl rfl (by repeat (first | exact look_same | assumption | refine look_ne (by omega) ?_ | refine look_keep (by assumption) (by omega) (by simp; try omega) ?_)) (by simp [tri]; omega)) ?_
    refine stEnd (hK _ [(1, _), (2, _), (3, _), (6, _), (9, _), (10, _), (11, _)] _ _ rfl ?_)
    clear hK K
    refine W.sR [1, 2, 3, 6, 9, 10, 11] fun K hK => ?_
    refine st rfl rfl (e_move rfl) ?_
    refine st rfl rfl (e_fieldAddr t29 t22 rfl rfl) ?_
    refine st rfl rfl (e_load1 t22 rfl rfl (by repeat (first | exact look_same | assumption | refine look_ne (by omega) ?_ | refine look_keep (by assumption) (by omega) (by simp; try omega) ?_)) rfl) ?_
    refine st rfl rfl (e_move rfl) ?_
    refine st rfl rfl (e_move rfl) ?_
    refine st rfl rfl (e_idxSK _ t22 t41 rfl rfl rfl (by first | omega | decide)) ?_
    refine st rfl rfl (e_idxAK _ t41 t3 rfl rfl rfl (by first | omega | decide)) ?_
    refine st rfl rfl (e_load1 t3 rfl rfl (by repeat (first | exact look_same | assumption | refine look_ne (by omega) ?_ | refine look_keep (by assumption) (by omega) (by simp; try omega) ?_)) (by first | exact (flat_get (by omega) (by omega)).trans rfl | exact flat_getJ (by omega) (by omega))) ?_
    refine st rfl rfl (e_idxAK _ t41 t3 rfl rfl rfl (by first | omega | decide)) ?_
    refine stN rfl (e_store1 t3 rfl rfl rfl (by repeat (first | exact look_same | assumption | refine look_ne (by omega) ?_ | refine look_keep (by assumption) (by omega) (by simp; try omega) ?_)) (by simp [tri]; omega)) ?_
    refine stEnd (hK _ [(1, _), (2, _), (3, _), (6, _), (9, _), (10, _), (11, _)] _ _ rfl ?_)
    clear hK K
    refine W.rR [1, 2, 3, 6, 9, 10] fun K hK => ?_
    refine st rfl rfl (e_loadA t29 rfl rfl (by repeat (first | exact look_same | assumption | refine look_ne (by omega) ?_ | refine look_keep (by assumption) (by omega) (by simp; try omega) ?_)) rfl rfl) ?_
    refine st rfl rfl (e_loadA t41 rfl rfl (by repeat (first | exact look_same | assumption | refine look_ne (by omega) ?_ | refine look_keep (by assumption) (by omega) (by simp; try omega) ?_)) rfl (by simp [tri])) ?_
    rw [swap_tri hp hq]
    refine stC rfl rfl rfl (spec_l2With_s _ _ _ _ _ _ _ _ _ (by repeat (first | exact look_same | assumption | refine look_ne (by omega) ?_ | refine look_keep (by assumption) (by omega) (by simp; try omega) ?_)) (by have := withN_len (swp p q) cs i hi; omega)) ?_
    refine stN rfl (e_storeA t29 rfl rfl (by repeat (first | exact look_same | assumption | refine look_ne (by omega) ?_ | refine look_keep (by assumption) (by omega) (by simp; try omega) ?_)) rfl rfl rfl (by decide)) ?_
    refine stEnd (hK _ [(1, _), (2, _), (3, _), (6, _), (9, _), (10, _)] _ _ rfl ?_)
    clear hK K
    refine blockN ?_
    refine thenN ?_
    refine W.rR [10, 1, 2, 3, 6, 9] fun K hK => ?_
    refine st rfl rfl (e_move rfl) ?_
    refine st rfl rfl (e_add rfl rfl (inB _ (by omega))) ?_
    refine st rfl rfl (e_assign rfl) ?_
    refine stEnd (hK _ [(10, _), (1, _), (2, _), (3, _), (6, _), (9, _)] _ _ rfl ?_)
    clear hK K
    exact roundN (V' := [(10, _)]) [10, 1, 2, 3, 6, 9] rfl (by omega) (by repeat (first | exact Keeps.refl _ _ _ | assumption | refine Keeps.trans ?_ (by assumption) (by omega) (by simp; try omega) | refine Keeps.set ?_ (by first | exact Or.inl (by omega) | (simp; done) | (simp; omega)) | refine Keeps.del ?_ (by first | exact Or.inl (by omega) | (simp; done) | (simp; omega)))) _ (by omega) ⟨i + 1, μ + 1, rfl, rfl, (by first | omega | assumption | simp_all), (by omega), (by rw [← withN_succ (by omega)]; exact look_same), (by rw [← withN_succ (by omega)]; exact (by repeat (first | exact look_same | assumption | refine look_ne (by omega) ?_ | refine look_keep (by assumption) (by omega) (by simp; try omega) ?_)))⟩
  ·
    try simp only [decide_eq_true_eq, decide_eq_false_iff_not, Bool.not_eq_true', Bool.not_eq_false', Bool.not_eq_true, Bool.not_eq_false] at hb1
    refine stEnd (hK _ [(1, _), (2, _), (3, _), (6, _), (9, _), (10, _), (47, _)] _ _ rfl ?_)
    clear hK K
    refine W.condF rfl ?_
    refine W.exit ?_
    refine thenE ?_
    refine thenE ?_
    refine blockX ?_
    refine thenN ?_
    obtain rfl : i = cs.length := by omega
    refine W.sR [6] fun K hK => ?_
    refine st rfl rfl (e_loadA t29 rfl rfl (by repeat (first | exact look_same | assumption | refine look_ne (by omega) ?_ | refine look_keep (by assumption) (by omega) (by simp; try omega) ?_)) rfl rfl) ?_
    refine stN rfl (e_storeA t29 rfl rfl (by repeat (first | exact look_same | assumption | refine look_ne (by omega) ?_ | refine look_keep (by assumption) (by omega) (by simp; try omega) ?_)) rfl rfl rfl (by decide)) ?_
    refine stEnd (hK _ [(6, _)] _ _ rfl ?_)
    clear hK K
    refine W.ret ?_
    refine ⟨.inr rfl, Ends.v1 (r) (by omega) (by repeat (first | exact self_old | assumption | refine set_old ?_ (by omega) | refine keep_old (by assumption) ?_ (by omega) (by simp; try omega))) hfresh (by repeat (first | exact look_same | assumption | refine look_ne (by omega) ?_ | refine look_keep (by assumption) (by omega) (by simp; try omega) ?_)) ?_ (by first | exact flat_plain _ | exact ints_plain _) (by simp [ltT, ltA, ltC, ltV]; try omega) (res1 (resC t29 rfl rfl (by repeat (first | exact look_same | assumption | refine look_ne (by omega) ?_ | refine look_keep (by assumption) (by omega) (by simp; try omega) ?_)) rfl rfl) rfl) ?_⟩
    · rfl
    · simp [renT, renV, renC, renA, one]
theorem spec_SwapSides_ok_s (X Y Z : Int) (b : Nat) (ro : Bool) (cs : List C) (p q : Nat) (H : Heap) (n : Nat) (hb : H b = some (.cells ro (flat cs))) (hlen : cs.length ≤ 1048576) (hh : isHeap X Y Z cs = true) (hp : p < 3) (hq : q < 3) : Fn Try.prog 26 [.agg #[.int .i64 X, .int .i64 Y, .int .i64 Z, .slice (some ⟨b, 0, none⟩) cs.length 3], .int .i64 (p : Nat), .int .i64 (q : Nat)] H n (.tuple #[.agg #[.int .i64 (swp p q (X, Y, Z)).1, .int .i64 (swp p q (X, Y, Z)).2.1, .int .i64 (swp p q (X, Y, Z)).2.2, .slice (some ⟨n, 0, none⟩) (cellsOf (swp p q (X, Y, Z)).1 (swp p q (X, Y, Z)).2.1 (swp p q (X, Y, Z)).2.2 (mask (swp p q (X, Y, Z)).2.1 (swp p q (X, Y, Z)).2.2 (cs.map (swp p q)))).length 3], .bool true]) (H.set n (.cells false (flat (cellsOf (swp p q (X, Y, Z)).1 (swp p q (X, Y, Z)).2.1 (swp p q (X, Y, Z)).2.2 (mask (swp p q (X, Y, Z)).2.1 (swp p q (X, Y, Z)).2.2 (cs.map (swp p q))))))) (n + 1) := by
  refine Fn.intro' Try.func26 rfl (by kernel_rfl) Try.ntmps26 (by simp) (by omega) fun hfresh => ?_
  have lt_hb := lt_fresh hfresh hb
  have hv := valid_of hh
  have hX := hv.box
  show W _ _ _ ⟨[(0, _), (1, _), (2, _)], _, _⟩ _
  refine W.sR [1, 2, 3, 6] fun K hK => ?_
  refine st rfl rfl (e_boxA rfl) ?_
  refine st rfl rfl (e_alloc t29 rfl) ?_
  refine st rfl rfl (e_assign rfl) ?_
  refine stEnd (hK _ [(1, _), (2, _), (3, _), (6, _)] _ _ rfl ?_)
  clear hK K
  refine W.seq ?_
  refine W.sR [1, 2, 3, 6, 20] fun K hK => ?_
  refine st rfl rfl (e_loadA t29 rfl rfl (by repeat (first | exact look_same | assumption | refine look_ne (by omega) ?_)) rfl rfl) ?_
  refine stC rfl rfl rfl (spec_l2Heap_s _ _ _ _ _ _ _ _ (by repeat (first | exact look_same | assumption | refine look_ne (by omega) ?_)) (by omega)) ?_
  rw [hh]
  refine st rfl rfl (e_not rfl) ?_
  refine st rfl rfl (e_move rfl) ?_
  refine st rfl rfl (e_move rfl) ?_
  refine stC rfl rfl rfl (spec_l1In_s _ _ _ _ _ ) ?_
  rw [within_dir hp]
  refine st rfl rfl (e_not rfl) ?_
  refine st rfl rfl (e_pickF rfl rfl) ?_
  refine st rfl rfl (e_move rfl) ?_
  refine st rfl rfl (e_move rfl) ?_
  refine stC rfl rfl rfl (spec_l1In_s _ _ _ _ _ ) ?_
  rw [within_dir hq]
  refine st rfl rfl (e_not rfl) ?_
  refine st rfl rfl (e_pickF rfl rfl) ?_
  refine stEnd (hK _ [(1, _), (2, _), (3, _), (6, _), (20, _)] _ _ rfl ?_)
  clear hK K
  refine W.condF rfl ?_
  refine W.skip ?_
  refine thenN ?_
  refine W.sR [6, 7] fun K hK => ?_
  refine st rfl rfl (e_loadA t29 rfl rfl (by repeat (first | exact look_same | assumption | refine look_ne (by omega) ?_)) rfl rfl) ?_
  refine st rfl rfl (e_move rfl) ?_
  refine st rfl rfl (e_move rfl) ?_
  refine stC rfl rfl rfl (spec_l2Swapped_s _ _ _ _ _ _ _ _ _ _ (by repeat (first | exact look_same | assumption | refine look_ne (by omega) ?_)) (by omega) (by assumption) (by assumption)) ?_
  rw [withN_cells (swp_box hp hq hX) (fun c hc => swp_in hp hq (hv.inn c hc))]
  refine stN rfl (e_storeA t29 rfl rfl (by repeat (first | exact look_same | assumption | refine look_ne (by omega) ?_)) rfl rfl rfl (by decide)) ?_
  refine st rfl rfl (e_assign rfl) ?_
  refine stEnd (hK _ [(6, _), (7, _)] _ _ rfl ?_)
  clear hK K
  refine W.ret ?_
  refine ⟨.inr rfl, Ends.v1 (n + 1 + 1) (by omega) (by repeat (first | exact self_old | assumption | refine set_old ?_ (by omega))) hfresh (by repeat (first | exact look_same | assumption | refine look_ne (by omega) ?_)) ?_ (by first | exact flat_plain _ | exact ints_plain _) (by simp [ltT, ltA, ltC, ltV]; try omega) (res2 (resC t29 rfl rfl (by repeat (first | exact look_same | assumption | refine look_ne (by omega) ?_)) rfl rfl) (resT rfl) rfl rfl) ?_⟩
  · rfl
  · simp [renT, renV, renC, renA, one]
theorem laws_eqIntA3S_nil_s  (H : Heap) (n : Nat) : Fn Try.prog 57 [.slice none 0 0, .slice none 0 0] H n (.bool true) (H) (n) := by
  refine Fn.intro' Try.func57 rfl (by kernel_rfl) Try.ntmps57 (by simp) (by omega) fun hfresh => ?_
  show W _ _ _ ⟨[(0, _), (1, _)], _, _⟩ _
  refine W.sR [0, 1] fun K hK => ?_
  refine st rfl rfl (e_assign rfl) ?_
  refine stEnd (hK _ [(0, _), (1, _)] _ _ rfl ?_)
  clear hK K
  refine W.seq ?_
  refine W.sR [0, 1, 10] fun K hK => ?_
  refine st rfl rfl (e_move rfl) ?_
  refine st rfl rfl (e_len t22 rfl) ?_
  refine st rfl rfl (e_move rfl) ?_
  refine st rfl rfl (e_len t22 rfl) ?_
  refine st rfl rfl (e_neq rfl rfl) ?_
  refine stB (fun hz => ?_) (fun hz => ?_)
  ·
    exact absurd hz (by simp)
  ·
    try simp only [decide_eq_true_eq, decide_eq_false_iff_not, Bool.not_eq_true', Bool.not_eq_false', Bool.not_eq_true, Bool.not_eq_false] at hz
    refine stEnd (hK _ [(0, _), (1, _), (10, _)] _ _ rfl ?_)
    clear hK K
    refine W.condF rfl ?_
    refine W.skip ?_
    refine thenN ?_
    refine W.seq ?_
    refine W.sR [0, 1, 5] fun K hK => ?_
    refine st rfl rfl (e_assign rfl) ?_
    refine stEnd (hK _ [(0, _), (1, _), (5, _)] _ _ rfl ?_)
    clear hK K
    refine W.block ?_
    refine W.ord [5, 0, 1] (ts' := [(5, _)] ++ [(0, _), (1, _)]) rfl ?_
    refine W.loopC [(5, _)] [] (fun κ V G μ => V = [(5, .int .i64 0)] ∧ κ = 0) _ ⟨rfl, rfl⟩ fun κ V G μ hinv hμ hkeep hfr => ?_
    obtain ⟨rfl, rfl⟩ := hinv
    refine W.seq ?_
    refine W.sR [0, 1, 5, 14] fun K hK => ?_
    refine st rfl rfl (e_move rfl) ?_
    refine st rfl rfl (e_move rfl) ?_
    refine st rfl rfl (e_len t22 rfl) ?_
    refine st rfl rfl (e_lss rfl rfl) ?_
    refine stB (fun hz => ?_) (fun hz => ?_)
    ·
      exact absurd hz (by simp)
    ·
      try simp only [decide_eq_true_eq, decide_eq_false_iff_not, Bool.not_eq_true', Bool.not_eq_false', Bool.not_eq_true, Bool.not_eq_false] at hz
      refine stEnd (hK _ [(0, _), (1, _), (5, _), (14, _)] _ _ rfl ?_)
      clear hK K
      refine W.condF rfl ?_
      refine W.exit ?_
      refine thenE ?_
      refine thenE ?_
      refine blockX ?_
      refine thenN ?_
      refine W.sR [4] fun K hK => ?_
      refine st rfl rfl (e_assign rfl) ?_
      refine stEnd (hK _ [(4, _)] _ _ rfl ?_)
      clear hK K
      refine W.ret ?_
      refine ⟨.inr rfl, Ends.v0 (by repeat (first | exact self_old | assumption | refine set_old ?_ (by omega) | refine keep_old (by assumption) ?_ (by omega) (by simp; try omega))) hfresh (by first | rfl | (simp [ltT, ltA, ltC, ltV]; try omega)) (res1 (resT rfl) rfl) ?_⟩
      rfl
theorem laws_markIntA3S_nil_s (k : Int) (H : Heap) (n : Nat) : Fn Try.prog 58 [.slice none 0 0, .int .i64 k] H n (.int .i64 k) (H) (n) := by
  refine Fn.intro' Try.func58 rfl (by kernel_rfl) Try.ntmps58 (by simp) (by omega) fun hfresh => ?_
  show W _ _ _ ⟨[(0, _), (1, _)], _, _⟩ _
  refine W.sR [0, 1] fun K hK => ?_
  refine st rfl rfl (e_assign rfl) ?_
  refine stEnd (hK _ [(0, _), (1, _)] _ _ rfl ?_)
  clear hK K
  refine W.seq ?_
  refine W.sR [0, 1, 5] fun K hK => ?_
  refine st rfl rfl (e_assign rfl) ?_
  refine stEnd (hK _ [(0, _), (1, _), (5, _)] _ _ rfl ?_)
  clear hK K
  refine W.block ?_
  refine W.ord [1, 5, 0] (ts' := [(1, _), (5, _)] ++ [(0, _)]) rfl ?_
  refine W.loopC [(1, _), (5, _)] [] (fun κ V G μ => V = [(1, .int .i64 k), (5, .int .i64 0)] ∧ κ = 0) _ ⟨rfl, rfl⟩ fun κ V G μ hinv hμ hkeep hfr => ?_
  obtain ⟨rfl, rfl⟩ := hinv
  refine W.seq ?_
  refine W.sR [0, 1, 5, 10] fun K hK => ?_
  refine st rfl rfl (e_move rfl) ?_
  refine st rfl rfl (e_move rfl) ?_
  refine st rfl rfl (e_len t22 rfl) ?_
  refine st rfl rfl (e_lss rfl rfl) ?_
  refine stB (fun hz => ?_) (fun hz => ?_)
  ·
    exact absurd hz (by simp)
  ·
    try simp only [decide_eq_true_eq, decide_eq_false_iff_not, Bool.not_eq_true', Bool.not_eq_false', Bool.not_eq_true, Bool.not_eq_false] at hz
    refine stEnd (hK _ [(0, _), (1, _), (5, _), (10, _)] _ _ rfl ?_)
    clear hK K
    refine W.condF rfl ?_
    refine W.exit ?_
    refine thenE ?_
    refine thenE ?_
    refine blockX ?_
    refine thenN ?_
    refine W.sR [4] fun K hK => ?_
    refine st rfl rfl (e_move rfl) ?_
    refine st rfl rfl (e_assign rfl) ?_
    refine stEnd (hK _ [(4, _)] _ _ rfl ?_)
    clear hK K
    refine W.ret ?_
    refine ⟨.inr rfl, Ends.v0 (by repeat (first | exact self_old | assumption | refine set_old ?_ (by omega) | refine keep_old (by assumption) ?_ (by omega) (by simp; try omega))) hfresh (by first | rfl | (simp [ltT, ltA, ltC, ltV]; try omega)) (res1 (resT rfl) rfl) ?_⟩
    rfl
theorem laws_heldIntA3S_nil_s (k : Int) (H : Heap) (n : Nat) : Fn Try.prog 69 [.slice none 0 0, .int .i64 k] H n (.int .i64 k) (H) (n) := by
  refine Fn.intro' Try.func69 rfl (by kernel_rfl) Try.ntmps69 (by simp) (by omega) fun hfresh => ?_
  show W _ _ _ ⟨[(0, _), (1, _)], _, _⟩ _
  refine W.sR [0, 1] fun K hK => ?_
  refine st rfl rfl (e_assign rfl) ?_
  refine stEnd (hK _ [(0, _), (1, _)] _ _ rfl ?_)
  clear hK K
  refine W.seq ?_
  refine W.sR [0, 1, 5] fun K hK => ?_
  refine st rfl rfl (e_assign rfl) ?_
  refine stEnd (hK _ [(0, _), (1, _), (5, _)] _ _ rfl ?_)
  clear hK K
  refine W.block ?_
  refine W.ord [1, 5, 0] (ts' := [(1, _), (5, _)] ++ [(0, _)]) rfl ?_
  refine W.loopC [(1, _), (5, _)] [] (fun κ V G μ => V = [(1, .int .i64 k), (5, .int .i64 0)] ∧ κ = 0) _ ⟨rfl, rfl⟩ fun κ V G μ hinv hμ hkeep hfr => ?_
  obtain ⟨rfl, rfl⟩ := hinv
  refine W.seq ?_
  refine W.sR [0, 1, 5, 10] fun K hK => ?_
  refine st rfl rfl (e_move rfl) ?_
  refine st rfl rfl (e_move rfl) ?_
  refine st rfl rfl (e_len t22 rfl) ?_
  refine st rfl rfl (e_lss rfl rfl) ?_
  refine stB (fun hz => ?_) (fun hz => ?_)
  ·
    exact absurd hz (by simp)
  ·
    try simp only [decide_eq_true_eq, decide_eq_false_iff_not, Bool.not_eq_true', Bool.not_eq_false', Bool.not_eq_true, Bool.not_eq_false] at hz
    refine stEnd (hK _ [(0, _), (1, _), (5, _), (10, _)] _ _ rfl ?_)
    clear hK K
    refine W.condF rfl ?_
    refine W.exit ?_
    refine thenE ?_
    refine thenE ?_
    refine blockX ?_
    refine thenN ?_
    refine W.sR [4] fun K hK => ?_
    refine st rfl rfl (e_move rfl) ?_
    refine st rfl rfl (e_assign rfl) ?_
    refine stEnd (hK _ [(4, _)] _ _ rfl ?_)
    clear hK K
    refine W.ret ?_
    refine ⟨.inr rfl, Ends.v0 (by repeat (first | exact self_old | assumption | refine set_old ?_ (by omega) | refine keep_old (by assumption) ?_ (by omega) (by simp; try omega))) hfresh (by first | rfl | (simp [ltT, ltA, ltC, ltV]; try omega)) (res1 (resT rfl) rfl) ?_⟩
    rfl
theorem laws_eqHeap_nil_s  (H : Heap) (n : Nat) : Fn Try.prog 20 [.agg #[.int .i64 0, .int .i64 0, .int .i64 0, .slice none 0 0], .agg #[.int .i64 0, .int .i64 0, .int .i64 0, .slice none 0 0]] H n (.bool true) (H) (n) := by
  refine Fn.intro' Try.func20 rfl (by kernel_rfl) Try.ntmps20 (by simp) (by omega) fun hfresh => ?_
  show W _ _ _ ⟨[(0, _), (1, _)], _, _⟩ _
  refine W.sR [2, 3] fun K hK => ?_
  refine st rfl rfl (e_boxA rfl) ?_
  refine st rfl rfl (e_boxA rfl) ?_
  refine st rfl rfl (e_assign rfl) ?_
  refine stEnd (hK _ [(2, _), (3, _)] _ _ rfl ?_)
  clear hK K
  refine W.seq ?_
  refine W.sR [2, 3, 9] fun K hK => ?_
  refine st rfl rfl (e_fieldAddr t29 t3 rfl rfl) ?_
  refine st rfl rfl (e_load1 t3 rfl rfl (by repeat (first | exact look_same | assumption | refine look_ne (by omega) ?_)) rfl) ?_
  refine st rfl rfl (e_fieldAddr t29 t3 rfl rfl) ?_
  refine st rfl rfl (e_load1 t3 rfl rfl (by repeat (first | exact look_same | assumption | refine look_ne (by omega) ?_)) rfl) ?_
  refine st rfl rfl (e_neq rfl rfl) ?_
  refine stB (fun hz => ?_) (fun hz => ?_)
  ·
    simp at hz
  ·
    try simp only [decide_eq_true_eq, decide_eq_false_iff_not, Bool.not_eq_true', Bool.not_eq_false', Bool.not_eq_true, Bool.not_eq_false] at hz
    refine stEnd (hK _ [(2, _), (3, _), (9, _)] _ _ rfl ?_)
    clear hK K
    refine W.condF rfl ?_
    refine W.skip ?_
    refine thenN ?_
    refine W.seq ?_
    refine W.sR [2, 3, 14] fun K hK => ?_
    refine st rfl rfl (e_fieldAddr t29 t3 rfl rfl) ?_
    refine st rfl rfl (e_load1 t3 rfl rfl (by repeat (first | exact look_same | assumption | refine look_ne (by omega) ?_)) rfl) ?_
    refine st rfl rfl (e_fieldAddr t29 t3 rfl rfl) ?_
    refine st rfl rfl (e_load1 t3 rfl rfl (by repeat (first | exact look_same | assumption | refine look_ne (by omega) ?_)) rfl) ?_
    refine st rfl rfl (e_neq rfl rfl) ?_
    refine stB (fun hz => ?_) (fun hz => ?_)
    ·
      simp at hz
    ·
      try simp only [decide_eq_true_eq, decide_eq_false_iff_not, Bool.not_eq_true', Bool.not_eq_false', Bool.not_eq_true, Bool.not_eq_false] at hz
      refine stEnd (hK _ [(2, _), (3, _), (14, _)] _ _ rfl ?_)
      clear hK K
      refine W.condF rfl ?_
      refine W.skip ?_
      refine thenN ?_
      refine W.seq ?_
      refine W.sR [2, 3, 19] fun K hK => ?_
      refine st rfl rfl (e_fieldAddr t29 t3 rfl rfl) ?_
      refine st rfl rfl (e_load1 t3 rfl rfl (by repeat (first | exact look_same | assumption | refine look_ne (by omega) ?_)) rfl) ?_
      refine st rfl rfl (e_fieldAddr t29 t3 rfl rfl) ?_
      refine st rfl rfl (e_load1 t3 rfl rfl (by repeat (first | exact look_same | assumption | refine look_ne (by omega) ?_)) rfl) ?_
      refine st rfl rfl (e_neq rfl rfl) ?_
      refine stB (fun hz => ?_) (fun hz => ?_)
      ·
        simp at hz
      ·
        try simp only [decide_eq_true_eq, decide_eq_false_iff_not, Bool.not_eq_true', Bool.not_eq_false', Bool.not_eq_true, Bool.not_eq_false] at hz
        refine stEnd (hK _ [(2, _), (3, _), (19, _)] _ _ rfl ?_)
        clear hK K
        refine W.condF rfl ?_
        refine W.skip ?_
        refine thenN ?_
        refine W.seq ?_
        refine W.sR [25] fun K hK => ?_
        refine st rfl rfl (e_fieldAddr t29 t22 rfl rfl) ?_
        refine st rfl rfl (e_load1 t22 rfl rfl (by repeat (first | exact look_same | assumption | refine look_ne (by omega) ?_)) rfl) ?_
        refine st rfl rfl (e_fieldAddr t29 t22 rfl rfl) ?_
        refine st rfl rfl (e_load1 t22 rfl rfl (by repeat (first | exact look_same | assumption | refine look_ne (by omega) ?_)) rfl) ?_
        refine stC rfl rfl rfl (laws_eqIntA3S_nil_s  _ _ ) ?_
        refine st rfl rfl (e_not rfl) ?_
        refine stEnd (hK _ [(25, _)] _ _ rfl ?_)
        clear hK K
        refine W.condF rfl ?_
        refine W.skip ?_
        refine thenN ?_
        refine W.sR [4] fun K hK => ?_
        refine st rfl rfl (e_assign rfl) ?_
        refine stEnd (hK _ [(4, _)] _ _ rfl ?_)
        clear hK K
        refine W.ret ?_
        refine ⟨.inr rfl, Ends.v0 (by repeat (first | exact self_old | assumption | refine set_old ?_ (by omega))) hfresh (by first | rfl | (simp [ltT, ltA, ltC, ltV]; try omega)) (res1 (resT rfl) rfl) ?_⟩
        rfl
theorem laws_markHeap_nil_s (k : Int) (H : Heap) (n : Nat) : Fn Try.prog 21 [.agg #[.int .i64 0, .int .i64 0, .int .i64 0, .slice none 0 0], .int .i64 k] H n (.int .i64 k) (H) (n) := by
  refine Fn.intro' Try.func21 rfl (by kernel_rfl) Try.ntmps21 (by simp) (by omega) fun hfresh => ?_
  show W _ _ _ ⟨[(0, _), (1, _)], _, _⟩ _
  refine W.sR [1, 2] fun K hK => ?_
  refine st rfl rfl (e_boxA rfl) ?_
  refine st rfl rfl (e_assign rfl) ?_
  refine stEnd (hK _ [(1, _), (2, _)] _ _ rfl ?_)
  clear hK K
  refine W.sR [1] fun K hK => ?_
  refine st rfl rfl (e_fieldAddr t29 t22 rfl rfl) ?_
  refine st rfl rfl (e_load1 t22 rfl rfl (by repeat (first | exact look_same | assumption | refine look_ne (by omega) ?_)) rfl) ?_
  refine st rfl rfl (e_move rfl) ?_
  refine stC rfl rfl rfl (laws_markIntA3S_nil_s _ _ _ ) ?_
  refine st rfl rfl (e_assign rfl) ?_
  refine stEnd (hK _ [(1, _)] _ _ rfl ?_)
  clear hK K
  refine W.sR [4] fun K hK => ?_
  refine st rfl rfl (e_move rfl) ?_
  refine st rfl rfl (e_assign rfl) ?_
  refine stEnd (hK _ [(4, _)] _ _ rfl ?_)
  clear hK K
  refine W.ret ?_
  refine ⟨.inr rfl, Ends.v0 (by repeat (first | exact self_old | assumption | refine set_old ?_ (by omega))) hfresh (by first | rfl | (simp [ltT, ltA, ltC, ltV]; try omega)) (res1 (resT rfl) rfl) ?_⟩
  rfl
theorem laws_heldHeap_nil_s (k : Int) (H : Heap) (n : Nat) (hk : 0 ≤ k) : Fn Try.prog 28 [.agg #[.int .i64 0, .int .i64 0, .int .i64 0, .slice none 0 0], .int .i64 k] H n (.int .i64 k) (H) (n) := by
  refine Fn.intro' Try.func28 rfl (by kernel_rfl) Try.ntmps28 (by simp) (by omega) fun hfresh => ?_
  show W _ _ _ ⟨[(0, _), (1, _)], _, _⟩ _
  refine W.sR [1, 2] fun K hK => ?_
  refine st rfl rfl (e_boxA rfl) ?_
  refine st rfl rfl (e_assign rfl) ?_
  refine stEnd (hK _ [(1, _), (2, _)] _ _ rfl ?_)
  clear hK K
  refine W.sR [1] fun K hK => ?_
  refine st rfl rfl (e_fieldAddr t29 t22 rfl rfl) ?_
  refine st rfl rfl (e_load1 t22 rfl rfl (by repeat (first | exact look_same | assumption | refine look_ne (by omega) ?_)) rfl) ?_
  refine st rfl rfl (e_move rfl) ?_
  refine stC rfl rfl rfl (laws_heldIntA3S_nil_s _ _ _ ) ?_
  refine st rfl rfl (e_assign rfl) ?_
  refine stEnd (hK _ [(1, _)] _ _ rfl ?_)
  clear hK K
  refine W.seq ?_
  refine W.sR [1, 10] fun K hK => ?_
  refine st rfl rfl (e_move rfl) ?_
  refine st rfl rfl (e_lss rfl rfl) ?_
  refine stB (fun hb1 => ?_) (fun hb1 => ?_)
  ·
    try simp only [decide_eq_true_eq, decide_eq_false_iff_not, Bool.not_eq_true', Bool.not_eq_false', Bool.not_eq_true, Bool.not_eq_false] at hb1
    refine stEnd (hK _ [(1, _), (10, _)] _ _ rfl ?_)
    clear hK K
    refine W.condT rfl ?_
    refine W.sR [4] fun K hK => ?_
    refine st rfl rfl (e_assign rfl) ?_
    refine stEnd (hK _ [(4, _)] _ _ rfl ?_)
    clear hK K
    refine W.ret ?_
    refine thenR ?_
    refine ⟨.inr rfl, Ends.v0 (by repeat (first | exact self_old | assumption | refine set_old ?_ (by omega))) hfresh (by first | rfl | (simp [ltT, ltA, ltC, ltV]; try omega)) (res1 (resT rfl) rfl) ?_⟩
    first | rfl | (exfalso; omega)
  ·
    try simp only [decide_eq_true_eq, decide_eq_false_iff_not, Bool.not_eq_true', Bool.not_eq_false', Bool.not_eq_true, Bool.not_eq_false] at hb1
    refine stEnd (hK _ [(1, _), (10, _)] _ _ rfl ?_)
    clear hK K
    refine W.condF rfl ?_
    refine W.skip ?_
    refine thenN ?_
    refine W.sR [4] fun K hK => ?_
    refine st rfl rfl (e_move rfl) ?_
    refine st rfl rfl (e_assign rfl) ?_
    refine stEnd (hK _ [(4, _)] _ _ rfl ?_)
    clear hK K
    refine W.ret ?_
    refine ⟨.inr rfl, Ends.v0 (by repeat (first | exact self_old | assumption | refine set_old ?_ (by omega))) hfresh (by first | rfl | (simp [ltT, ltA, ltC, ltV]; try omega)) (res1 (resT rfl) rfl) ?_⟩
    first | rfl | (exfalso; omega)
end Go.Sep.Walks
