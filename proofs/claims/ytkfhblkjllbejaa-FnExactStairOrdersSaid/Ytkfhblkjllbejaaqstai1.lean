/- Part of a proof: qstai1 -/
import Derived.Test.Ytkfhblkjllbejaaqstai0
namespace Go.Sep.Walks
open Go Go.Sep Go.Proofs
set_option linter.unusedVariables false
set_option linter.unusedSimpArgs false
theorem impl_StairOrders_1_s (X Y Z : Int) (sv : Value) (L : List C) (ks : List (List C)) (pm rm ph pf : Nat) (H : Heap) (n : Nat) (hpm : H pm = some (.cells false [.map (some rm)])) (hrm : H rm = some (.map (encM Y Z ordN without ks))) (hph : H ph = some (.cells false [.int .i64 X, .int .i64 Y, .int .i64 Z, sv])) (hpf : H pf = some (.cells false [.func (.func 94) #[] (List.toArray [.pointer (some ⟨pm, 0, none⟩), .pointer (some ⟨ph, 0, none⟩), .pointer (some ⟨pf, 0, none⟩)])])) (hv : Valid X Y Z L) (hM : MemOk X Y Z ks) (hl : L.length ≤ 18) : Fn Try.prog 94 [U (mask Y Z L), .pointer (some ⟨pm, 0, none⟩), .pointer (some ⟨ph, 0, none⟩), .pointer (some ⟨pf, 0, none⟩)] H n (.int .i64 (recL ordN without L)) (H.set rm (.map (encM Y Z ordN without (memK ordN without (L.length + 1) L ks)))) n := by
  have key : ∀ (f : Nat) (K : List C) (ks : List (List C)) (G : Heap) (m : Nat), K.length ≤ f → Valid X Y Z K → MemOk X Y Z ks → K.length ≤ 18 → G pm = some (.cells false [.map (some rm)]) → G rm = some (.map (encM Y Z ordN without ks)) → G ph = some (.cells false [.int .i64 X, .int .i64 Y, .int .i64 Z, sv]) → G pf = some (.cells false [.func (.func 94) #[] (List.toArray [.pointer (some ⟨pm, 0, none⟩), .pointer (some ⟨ph, 0, none⟩), .pointer (some ⟨pf, 0, none⟩)])]) → Fn Try.prog 94 [U (mask Y Z K), .pointer (some ⟨pm, 0, none⟩), .pointer (some ⟨ph, 0, none⟩), .pointer (some ⟨pf, 0, none⟩)] G m (.int .i64 (recL ordN without K)) (G.set rm (.map (encM Y Z ordN without (memK ordN without (f + 1) K ks)))) m := by
    intro f
    induction f with
    | zero =>
      intro K ks G m hK hv hM h18 h1 h2 h3 h4
      have hin : K ∈ ks := by rw [List.eq_nil_of_length_eq_zero (show K.length = 0 by omega)]; exact hM.nil
      rw [memK_hit hin, Heap.set_self h2]
      exact impl_StairOrders_1_hit X Y Z sv K ks pm rm ph pf G m h1 h2 h3 h4 hv hM hin
    | succ f ih =>
      intro K ks G m hK hv hM h18 h1 h2 h3 h4
      by_cases hin : K ∈ ks
      · rw [memK_hit hin, Heap.set_self h2]
        exact impl_StairOrders_1_hit X Y Z sv K ks pm rm ph pf G m h1 h2 h3 h4 hv hM hin
      · exact impl_StairOrders_1_step X Y Z sv K ks pm rm ph pf (f + 1) G m h1 h2 h3 h4 hv hM hin h18 fun K2 ks2 G2 m2 hv2 hM2 hlt g1 g2 g3 g4 _ => ih K2 ks2 G2 m2 (by omega) hv2 hM2 (by omega) g1 g2 g3 g4
  exact key L.length L ks H n (Nat.le_refl _) hv hM hl hpm hrm hph hpf
theorem impl_StairOrders_ok_s (X Y Z : Int) (b : Nat) (ro : Bool) (cs : List C) (H : Heap) (n : Nat) (hb : H b = some (.cells ro (flat cs))) (hlen : cs.length ≤ 1048576) (hh : isHeap X Y Z cs = true) (hst : stairC cs = true) (h9 : cs.length ≤ 9) : Fn Try.prog 40 [.agg #[.int .i64 X, .int .i64 Y, .int .i64 Z, .slice (some ⟨b, 0, none⟩) cs.length 3]] H n (.tuple #[.int .i64 (recL ordN without cs), .bool true]) (H) (n) := by
  refine Fn.intro' Try.func40 rfl (by kernel_rfl) Try.ntmps40 (by simp) (by omega) fun hfresh => ?_
  have lt_hb := lt_fresh hfresh hb
  have hv := valid_of hh
  have hX := hv.box
  have hvl := vol_le hX
  show W _ _ _ ⟨[(0, _)], _, _⟩ _
  refine W.sR [1] fun K hK => ?_
  refine st rfl rfl (e_boxA rfl) ?_
  refine st rfl rfl (e_assign rfl) ?_
  refine st rfl rfl (e_assign rfl) ?_
  refine stEnd (hK _ [(1, _)] _ _ rfl ?_)
  clear hK K
  refine W.seq ?_
  refine W.sR [1, 14] fun K hK => ?_
  refine st rfl rfl (e_loadA t28 rfl rfl (by repeat (first | exact look_same | assumption | refine look_ne (by omega) ?_)) rfl rfl) ?_
  refine stC rfl rfl rfl (impl_isStair_s _ _ _ _ _ _ _ _ (by repeat (first | exact look_same | assumption | refine look_ne (by omega) ?_)) (by omega)) ?_
  rw [hh, hst]
  refine st rfl rfl (e_not rfl) ?_
  refine st rfl rfl (e_move rfl) ?_
  refine st rfl rfl (e_fieldAddr t28 t22 rfl rfl) ?_
  refine st rfl rfl (e_load1 t22 rfl rfl (by repeat (first | exact look_same | assumption | refine look_ne (by omega) ?_)) rfl) ?_
  refine st rfl rfl (e_len t22 rfl) ?_
  refine st rfl rfl (e_gtr rfl rfl) ?_
  refine st rfl rfl (e_pickF rfl rfl) ?_
  refine stB (fun hz => ?_) (fun hz => ?_)
  ·
    (exfalso; simp only [decide_eq_true_eq] at hz; omega)
  ·
    try simp only [decide_eq_true_eq, decide_eq_false_iff_not, Bool.not_eq_true', Bool.not_eq_false', Bool.not_eq_true, Bool.not_eq_false] at hz
    refine stEnd (hK _ [(1, _), (14, _)] _ _ rfl ?_)
    clear hK K
    refine W.condF rfl ?_
    refine W.skip ?_
    refine thenN ?_
    refine W.sR [1, 4] fun K hK => ?_
    refine st rfl rfl (e_makeMap) ?_
    refine stN rfl (e_insert t102 t73 rfl rfl rfl rfl (by repeat (first | exact look_same | assumption | refine look_ne (by omega) ?_)) (enc_nil (Y := Y) (Z := Z) (N := ordN) (M := without))) ?_
    refine st rfl rfl (e_move rfl) ?_
    refine st rfl rfl (e_alloc t102 rfl) ?_
    refine stN rfl (e_store1 t102 rfl rfl rfl (by repeat (first | exact look_same | assumption | refine look_ne (by omega) ?_)) (by first | decide | (simp only [ints_length, flat_length]; omega) | (simp; done) | (simp; omega))) ?_
    refine stEnd (hK _ [(1, _), (4, _)] _ _ rfl ?_)
    clear hK K
    refine W.sR [1, 4, 5] fun K hK => ?_
    refine st rfl rfl (e_alloc t99 rfl) ?_
    refine stEnd (hK _ [(1, _), (4, _), (5, _)] _ _ rfl ?_)
    clear hK K
    refine W.sR [1, 5] fun K hK => ?_
    refine st rfl rfl (e_makeFunc rfl rfl) ?_
    refine stN rfl (e_store1 t99 rfl rfl rfl (by repeat (first | exact look_same | assumption | refine look_ne (by omega) ?_)) (by first | decide | (simp only [ints_length, flat_length]; omega) | (simp; done) | (simp; omega))) ?_
    refine stEnd (hK _ [(1, _), (5, _)] _ _ rfl ?_)
    clear hK K
    refine W.sD [2, 3] [0, 0, 2, 7, 15, 31] (by kernel_rfl) (by kernel_rfl) fun K hK => ?_
    refine dL rfl rfl rfl (by omega) (accB_ok rfl) (e_load1 t99 rfl rfl (by repeat (first | exact look_same | assumption | refine look_ne (by omega) ?_)) rfl) ?_
    refine dL rfl rfl rfl (by omega) (accB_ok rfl) (e_loadA t28 rfl rfl (by repeat (first | exact look_same | assumption | refine look_ne (by omega) ?_)) rfl rfl) ?_
    refine dC rfl rfl rfl rfl (impl_Heap_cubes_s _ _ _ _ _ _ _ _ (by repeat (first | exact look_same | assumption | refine look_ne (by omega) ?_ | refine look_hide (by omega) (by first | exact List.not_mem_nil | (simp [hidden, Nat.testBit]; done) | (simp [hidden, Nat.testBit]; omega)) ?_)) (by omega) (by assumption)) (by repeat (first | exact trivial | refine And.intro (Or.inl rfl) ?_ | refine And.intro (Or.inr trivial) ?_ | refine And.intro (Or.inr (And.intro (Or.inl (by omega)) (by first | (simp; done) | (simp; omega)))) ?_ | refine And.intro (Or.inr (And.intro (Or.inr (by omega)) (by first | (simp; done) | (simp; omega)))) ?_ | refine And.intro (Or.inr (by simp [compat]; try omega)) ?_)) ?_
    refine dCM rfl rfl rfl rfl (impl_StairOrders_1_s X Y Z _ cs [[]] (n + 1 + 1) (n + 1) n (n + 1 + 1 + 1) _ _ (by repeat (first | exact look_same | assumption | refine look_ne (by omega) ?_ | refine look_hide (by omega) (by first | exact List.not_mem_nil | (simp [hidden, Nat.testBit]; done) | (simp [hidden, Nat.testBit]; omega)) ?_)) (by repeat (first | exact look_same | assumption | refine look_ne (by omega) ?_ | refine look_hide (by omega) (by first | exact List.not_mem_nil | (simp [hidden, Nat.testBit]; done) | (simp [hidden, Nat.testBit]; omega)) ?_)) (by repeat (first | exact look_same | assumption | refine look_ne (by omega) ?_ | refine look_hide (by omega) (by first | exact List.not_mem_nil | (simp [hidden, Nat.testBit]; done) | (simp [hidden, Nat.testBit]; omega)) ?_)) (by repeat (first | exact look_same | assumption | refine look_ne (by omega) ?_ | refine look_hide (by omega) (by first | exact List.not_mem_nil | (simp [hidden, Nat.testBit]; done) | (simp [hidden, Nat.testBit]; omega)) ?_)) hv (memOk_nil hX) (by omega)) (accB_ok rfl) (by omega) (by first | exact List.not_mem_nil | (simp [hidden, Nat.testBit]; done) | (simp [hidden, Nat.testBit]; omega)) ?_
    refine dP rfl rfl rfl (e_assign rfl) ?_
    refine dP rfl rfl rfl (e_assign rfl) ?_
    refine dEnd (hK _ [(2, _), (3, _)] _ _ rfl ?_)
    clear hK K
    refine W.ret ?_
    refine ⟨.inr rfl, Ends.v0 (by repeat (first | exact self_old | assumption | refine set_old ?_ (by omega))) hfresh (by first | rfl | (simp [ltT, ltA, ltC, ltV]; try omega)) (res2 (resT rfl) (resT rfl) rfl rfl) ?_⟩
    rfl
theorem laws_eqIntA3_s (a b : C) (H : Heap) (n : Nat) : Fn Try.prog 112 [.agg #[.int .i64 a.1, .int .i64 a.2.1, .int .i64 a.2.2], .agg #[.int .i64 b.1, .int .i64 b.2.1, .int .i64 b.2.2]] H n (.bool (decide (a = b))) (H) (n) := by
  refine Fn.intro' Try.func112 rfl (by kernel_rfl) Try.ntmps112 (by simp) (by omega) fun hfresh => ?_
  show W _ _ _ ⟨[(0, _), (1, _)], _, _⟩ _
  refine W.sR [2, 3] fun K hK => ?_
  refine st rfl rfl (e_boxA rfl) ?_
  refine st rfl rfl (e_boxA rfl) ?_
  refine st rfl rfl (e_assign rfl) ?_
  refine stEnd (hK _ [(2, _), (3, _)] _ _ rfl ?_)
  clear hK K
  refine W.seq ?_
  refine W.sR [2, 3, 5] fun K hK => ?_
  refine st rfl rfl (e_assign rfl) ?_
  refine stEnd (hK _ [(2, _), (3, _), (5, _)] _ _ rfl ?_)
  clear hK K
  refine W.block ?_
  refine W.ord [5, 2, 3] (ts' := [(5, _)] ++ [(2, _), (3, _)]) rfl ?_
  refine W.loopC [(5, _)] [] (fun κ V G μ => ∃ i : Nat, V = [(5, .int .i64 (i : Nat))] ∧ κ = 3 - i ∧ (i ≤ 3) ∧ (∀ j, j < i → ci a j = ci b j)) _ ⟨0, rfl, rfl, (by first | omega | assumption | rfl | simp_all), (fun j hj => absurd hj (by omega))⟩ fun κ V G μ hinv hμ hkeep hfr => ?_
  obtain ⟨i, rfl, rfl, hi, hq⟩ := hinv
  refine W.seq ?_
  refine W.sR [2, 3, 5, 7] fun K hK => ?_
  refine st rfl rfl (e_move rfl) ?_
  refine st rfl rfl (e_lss rfl rfl) ?_
  refine stB (fun hb1 => ?_) (fun hb1 => ?_)
  ·
    try simp only [decide_eq_true_eq, decide_eq_false_iff_not, Bool.not_eq_true', Bool.not_eq_false', Bool.not_eq_true, Bool.not_eq_false] at hb1
    refine stEnd (hK _ [(2, _), (3, _), (5, _), (7, _)] _ _ rfl ?_)
    clear hK K
    refine W.condT rfl ?_
    refine W.skip ?_
    refine thenN ?_
    refine W.seq ?_
    refine W.block ?_
    refine W.sD [2, 3, 5, 16] [0, 1, 3, 0, 8, 24, 63] (by kernel_rfl) (by kernel_rfl) fun K hK => ?_
    refine dP rfl rfl rfl (e_move rfl) ?_
    refine dP rfl rfl rfl (e_idxAK _ t62 t3 rfl rfl rfl (by first | omega | decide)) ?_
    refine dL rfl rfl rfl (by omega) (accB_ok rfl) (e_load1 t3 rfl rfl (by repeat (first | exact look_same | assumption | refine look_ne (by omega) ?_ | refine look_keep (by assumption) (by omega) (by simp; try omega) ?_)) (by first | rfl | exact tri_getL (by omega))) ?_
    refine dP rfl rfl rfl (e_move rfl) ?_
    refine dP rfl rfl rfl (e_idxAK _ t62 t3 rfl rfl rfl (by first | omega | decide)) ?_
    refine dL rfl rfl rfl (by omega) (accB_ok rfl) (e_load1 t3 rfl rfl (by repeat (first | exact look_same | assumption | refine look_ne (by omega) ?_ | refine look_keep (by assumption) (by omega) (by simp; try omega) ?_)) (by first | rfl | exact tri_getL (by omega))) ?_
    refine dP rfl rfl rfl (e_neq rfl rfl) ?_
    refine dB (fun hb2 => ?_) (fun hb2 => ?_)
    ·
      try simp only [decide_eq_true_eq, decide_eq_false_iff_not, Bool.not_eq_true', Bool.not_eq_false', Bool.not_eq_true, Bool.not_eq_false] at hb2
      refine dEnd (hK _ [(2, _), (3, _), (5, _), (16, _)] _ _ rfl ?_)
      clear hK K
      refine W.condT rfl ?_
      refine W.sR [4] fun K hK => ?_
      refine st rfl rfl (e_assign rfl) ?_
      refine stEnd (hK _ [(4, _)] _ _ rfl ?_)
      clear hK K
      refine W.ret ?_
      refine blockR ?_
      refine thenR ?_
      refine thenR ?_
      refine blockR ?_
      refine thenR ?_
      refine ⟨.inr rfl, Ends.v0 (by repeat (first | exact self_old | assumption | refine set_old ?_ (by omega) | refine keep_old (by assumption) ?_ (by omega) (by simp; try omega))) hfresh (by first | rfl | (simp [ltT, ltA, ltC, ltV]; try omega)) (res1 (resT rfl) rfl) ?_⟩
      first | (rw [decide_eq_true (ci_ext (fun j hj => hq j (by omega)))]) | (congr 1; refine (decide_eq_false ?_).symm; intro e; subst e; first | (exact absurd rfl (by assumption)) | omega)
    ·
      try simp only [decide_eq_true_eq, decide_eq_false_iff_not, Bool.not_eq_true', Bool.not_eq_false', Bool.not_eq_true, Bool.not_eq_false] at hb2
      refine dEnd (hK _ [(2, _), (3, _), (5, _), (16, _)] _ _ rfl ?_)
      clear hK K
      refine W.condF rfl ?_
      refine W.skip ?_
      refine blockN ?_
      refine thenN ?_
      refine W.rR [5, 2, 3] fun K hK => ?_
      refine st rfl rfl (e_move rfl) ?_
      refine st rfl rfl (e_add rfl rfl (inB _ (by omega))) ?_
      refine st rfl rfl (e_assign rfl) ?_
      refine stEnd (hK _ [(5, _), (2, _), (3, _)] _ _ rfl ?_)
      clear hK K
      exact roundN (V' := [(5, _)]) [5, 2, 3] rfl (by omega) (by repeat (first | exact Keeps.refl _ _ _ | assumption | refine Keeps.trans ?_ (by assumption) (by omega) (by simp; try omega) | refine Keeps.set ?_ (by first | exact Or.inl (by omega) | (simp; done) | (simp; omega)) | refine Keeps.del ?_ (by first | exact Or.inl (by omega) | (simp; done) | (simp; omega)) | refine Keeps.delO2 ?_ (by omega))) _ (by omega) ⟨i + 1, rfl, rfl, (by first | omega | assumption | simp_all), (all_succ hq (by assumption))⟩
  ·
    try simp only [decide_eq_true_eq, decide_eq_false_iff_not, Bool.not_eq_true', Bool.not_eq_false', Bool.not_eq_true, Bool.not_eq_false] at hb1
    refine stEnd (hK _ [(2, _), (3, _), (5, _), (7, _)] _ _ rfl ?_)
    clear hK K
    refine W.condF rfl ?_
    refine W.exit ?_
    refine thenE ?_
    refine thenE ?_
    refine blockX ?_
    refine thenN ?_
    refine W.sR [4] fun K hK => ?_
    refine st rfl rfl (e_assign rfl) ?_
    refine stEnd (hK _ [(4, _)] _ _ rfl ?_)
    clear hK K
    refine W.ret ?_
    refine ⟨.inr rfl, Ends.v0 (by repeat (first | exact self_old | assumption | refine set_old ?_ (by omega) | refine keep_old (by assumption) ?_ (by omega) (by simp; try omega))) hfresh (by first | rfl | (simp [ltT, ltA, ltC, ltV]; try omega)) (res1 (resT rfl) rfl) ?_⟩
    first | (rw [decide_eq_true (ci_ext (fun j hj => hq j (by omega)))]) | (congr 1; refine (decide_eq_false ?_).symm; intro e; subst e; first | (exact absurd rfl (by assumption)) | omega)
theorem laws_eqIntA3S_s (b : Nat) (ro : Bool) (xs : List C) (c : Nat) (ro2 : Bool) (ys : List C) (H : Heap) (n : Nat) (hb : H b = some (.cells ro (flat xs))) (hc : H c = some (.cells ro2 (flat ys))) (hxs : xs.length ≤ 1048576) : Fn Try.prog 52 [.slice (some ⟨b, 0, none⟩) xs.length 3, .slice (some ⟨c, 0, none⟩) ys.length 3] H n (.bool (decide (xs = ys))) (H) (n) := by
  refine Fn.intro' Try.func52 rfl (by kernel_rfl) Try.ntmps52 (by simp) (by omega) fun hfresh => ?_
  have lt_hb := lt_fresh hfresh hb
  have lt_hc := lt_fresh hfresh hc
  show W _ _ _ ⟨[(0, _), (1, _)], _, _⟩ _
  refine W.sR [0, 1] fun K hK => ?_
  refine st rfl rfl (e_assign rfl) ?_
  refine stEnd (hK _ [(0, _), (1, _)] _ _ rfl ?_)
  clear hK K
  refine W.seq ?_
  refine W.sR [0, 1, 10] fun K hK => ?_
  refine st rfl rfl (e_move rfl) ?_
  refine st rfl rfl (e_len t22 rfl) ?_
  refine st rfl rfl (e_move rfl) ?_
  refine st rfl rfl (e_len t22 rfl) ?_
  refine st rfl rfl (e_neq rfl rfl) ?_
  refine stB (fun hb1 => ?_) (fun hb1 => ?_)
  ·
    try simp only [decide_eq_true_eq, decide_eq_false_iff_not, Bool.not_eq_true', Bool.not_eq_false', Bool.not_eq_true, Bool.not_eq_false] at hb1
    refine stEnd (hK _ [(0, _), (1, _), (10, _)] _ _ rfl ?_)
    clear hK K
    refine W.condT rfl ?_
    refine W.sR [4] fun K hK => ?_
    refine st rfl rfl (e_assign rfl) ?_
    refine stEnd (hK _ [(4, _)] _ _ rfl ?_)
    clear hK K
    refine W.ret ?_
    refine thenR ?_
    refine ⟨.inr rfl, Ends.v0 (by repeat (first | exact self_old | assumption | refine set_old ?_ (by omega) | refine keep_old (by assumption) ?_ (by omega) (by simp; try omega))) hfresh (by first | rfl | (simp [ltT, ltA, ltC, ltV]; try omega)) (res1 (resT rfl) rfl) ?_⟩
    first | (rw [decide_eq_true (ext3 (by omega) (fun j hj => hq j (by omega)))]) | (congr 1; refine (decide_eq_false ?_).symm; intro e; subst e; first | (exact absurd rfl (by assumption)) | omega)
  ·
    try simp only [decide_eq_true_eq, decide_eq_false_iff_not, Bool.not_eq_true', Bool.not_eq_false', Bool.not_eq_true, Bool.not_eq_false] at hb1
    refine stEnd (hK _ [(0, _), (1, _), (10, _)] _ _ rfl ?_)
    clear hK K
    refine W.condF rfl ?_
    refine W.skip ?_
    refine thenN ?_
    refine W.seq ?_
    refine W.sR [0, 1, 5] fun K hK => ?_
    refine st rfl rfl (e_assign rfl) ?_
    refine stEnd (hK _ [(0, _), (1, _), (5, _)] _ _ rfl ?_)
    clear hK K
    refine W.block ?_
    refine W.ord [5, 0, 1] (ts' := [(5, _)] ++ [(0, _), (1, _)]) rfl ?_
    refine W.loopC [(5, _)] [] (fun κ V G μ => ∃ i : Nat, V = [(5, .int .i64 (i : Nat))] ∧ κ = xs.length - i ∧ (i ≤ xs.length) ∧ (∀ j, j < i → at3 xs j = at3 ys j)) _ ⟨0, rfl, rfl, (by first | omega | assumption | rfl | simp_all), (fun j hj => absurd hj (by omega))⟩ fun κ V G μ hinv hμ hkeep hfr => ?_
    obtain ⟨i, rfl, rfl, hi, hq⟩ := hinv
    refine W.seq ?_
    refine W.sR [0, 1, 5, 14] fun K hK => ?_
    refine st rfl rfl (e_move rfl) ?_
    refine st rfl rfl (e_move rfl) ?_
    refine st rfl rfl (e_len t22 rfl) ?_
    refine st rfl rfl (e_lss rfl rfl) ?_
    refine stB (fun hb2 => ?_) (fun hb2 => ?_)
    ·
      try simp only [decide_eq_true_eq, decide_eq_false_iff_not, Bool.not_eq_true', Bool.not_eq_false', Bool.not_eq_true, Bool.not_eq_false] at hb2
      refine stEnd (hK _ [(0, _), (1, _), (5, _), (14, _)] _ _ rfl ?_)
      clear hK K
      refine W.condT rfl ?_
      refine W.skip ?_
      refine thenN ?_
      refine W.seq ?_
      refine W.block ?_
      refine W.sD [0, 1, 5, 26] [0, 0, 3, 7, 0, 0, 48, 112, 255, 511] (by kernel_rfl) (by kernel_rfl) fun K hK => ?_
      refine dP rfl rfl rfl (e_move rfl) ?_
      refine dP rfl rfl rfl (e_move rfl) ?_
      refine dP rfl rfl rfl (e_idxSK _ t22 t62 rfl rfl rfl (by first | omega | decide)) ?_
      refine dL rfl rfl rfl (by omega) (accB_ok rfl) (e_loadP t62 rfl rfl (by repeat (first | exact look_same | assumption | refine look_ne (by omega) ?_ | refine look_keep (by assumption) (by omega) (by simp; try omega) ?_)) (flat_at (by omega))) ?_
      refine dP rfl rfl rfl (e_move rfl) ?_
      refine dP rfl rfl rfl (e_move rfl) ?_
      refine dP rfl rfl rfl (e_idxSK _ t22 t62 rfl rfl rfl (by first | omega | decide)) ?_
      refine dL rfl rfl rfl (by omega) (accB_ok rfl) (e_loadP t62 rfl rfl (by repeat (first | exact look_same | assumption | refine look_ne (by omega) ?_ | refine look_keep (by assumption) (by omega) (by simp; try omega) ?_)) (flat_at (by omega))) ?_
      refine dC rfl rfl rfl rfl (laws_eqIntA3_s _ _ _ _ ) (accB_ok rfl) ?_
      refine dP rfl rfl rfl (e_not rfl) ?_
      refine dB (fun hb3 => ?_) (fun hb3 => ?_)
      ·
        try simp only [decide_eq_true_eq, decide_eq_false_iff_not, Bool.not_eq_true', Bool.not_eq_false', Bool.not_eq_true, Bool.not_eq_false] at hb3
        refine dEnd (hK _ [(0, _), (1, _), (5, _), (26, _)] _ _ rfl ?_)
        clear hK K
        refine W.condT rfl ?_
        refine W.sR [4] fun K hK => ?_
        refine st rfl rfl (e_assign rfl) ?_
        refine stEnd (hK _ [(4, _)] _ _ rfl ?_)
        clear hK K
        refine W.ret ?_
        refine blockR ?_
        refine thenR ?_
        refine thenR ?_
        refine blockR ?_
        refine thenR ?_
        refine ⟨.inr rfl, Ends.v0 (by repeat (first | exact self_old | assumption | refine set_old ?_ (by omega) | refine keep_old (by assumption) ?_ (by omega) (by simp; try omega))) hfresh (by first | rfl | (simp [ltT, ltA, ltC, ltV]; try omega)) (res1 (resT rfl) rfl) ?_⟩
        first | (rw [decide_eq_true (ext3 (by omega) (fun j hj => hq j (by omega)))]) | (congr 1; refine (decide_eq_false ?_).symm; intro e; subst e; first | (exact absurd rfl (by assumption)) | omega)
      ·
        try simp only [decide_eq_true_eq, decide_eq_false_iff_not, Bool.not_eq_true', Bool.not_eq_false', Bool.not_eq_true, Bool.not_eq_false] at hb3
        refine dEnd (hK _ [(0, _), (1, _), (5, _), (26, _)] _ _ rfl ?_)
        clear hK K
        refine W.condF rfl ?_
        refine W.skip ?_
        refine blockN ?_
        refine thenN ?_
        refine W.rR [5, 0, 1] fun K hK => ?_
        refine st rfl rfl (e_move rfl) ?_
        refine st rfl rfl (e_add rfl rfl (inB _ (by omega))) ?_
        refine st rfl rfl (e_assign rfl) ?_
        refine stEnd (hK _ [(5, _), (0, _), (1, _)] _ _ rfl ?_)
        clear hK K
        exact roundN (V' := [(5, _)]) [5, 0, 1] rfl (by omega) (by repeat (first | exact Keeps.refl _ _ _ | assumption | refine Keeps.trans ?_ (by assumption) (by omega) (by simp; try omega) | refine Keeps.set ?_ (by first | exact Or.inl (by omega) | (simp; done) | (simp; omega)) | refine Keeps.del ?_ (by first | exact Or.inl (by omega) | (simp; done) | (simp; omega)) | refine Keeps.delO2 ?_ (by omega))) _ (by omega) ⟨i + 1, rfl, rfl, (by first | omega | assumption | simp_all), (all_succ hq (by assumption))⟩
    ·
      try simp only [decide_eq_true_eq, decide_eq_false_iff_not, Bool.not_eq_true', Bool.not_eq_false', Bool.not_eq_true, Bool.not_eq_false] at hb2
      refine stEnd (hK _ [(0, _), (1, _), (5, _), (14, _)] _ _ rfl ?_)
      clear hK K
      refine W.condF rfl ?_
      refine W.exit ?_
      refine thenE ?_
      refine thenE ?_
      refine blockX ?_
      refine thenN ?_
      refine W.sR [4] fun K hK => ?_
      refine st rfl rfl (e_assign rfl) ?_
      refine stEnd (hK _ [(4, _)] _ _ rfl ?_)
      clear hK K
      refine W.ret ?_
      refine ⟨.inr rfl, Ends.v0 (by repeat (first | exact self_old | assumption | refine set_old ?_ (by omega) | refine keep_old (by assumption) ?_ (by omega) (by simp; try omega))) hfresh (by first | rfl | (simp [ltT, ltA, ltC, ltV]; try omega)) (res1 (resT rfl) rfl) ?_⟩
      first | (rw [decide_eq_true (ext3 (by omega) (fun j hj => hq j (by omega)))]) | (congr 1; refine (decide_eq_false ?_).symm; intro e; subst e; first | (exact absurd rfl (by assumption)) | omega)
theorem laws_eqHeap_s (X Y Z : Int) (b : Nat) (ro : Bool) (cs : List C) (X2 Y2 Z2 : Int) (c : Nat) (ro2 : Bool) (ds : List C) (H : Heap) (n : Nat) (hb : H b = some (.cells ro (flat cs))) (hc : H c = some (.cells ro2 (flat ds))) (hlen : cs.length ≤ 1048576) : Fn Try.prog 17 [.agg #[.int .i64 X, .int .i64 Y, .int .i64 Z, .slice (some ⟨b, 0, none⟩) cs.length 3], .agg #[.int .i64 X2, .int .i64 Y2, .int .i64 Z2, .slice (some ⟨c, 0, none⟩) ds.length 3]] H n (.bool (decide (X = X2 ∧ Y = Y2 ∧ Z = Z2 ∧ cs = ds))) (H) (n) := by
  refine Fn.intro' Try.func17 rfl (by kernel_rfl) Try.ntmps17 (by simp) (by omega) fun hfresh => ?_
  have lt_hb := lt_fresh hfresh hb
  have lt_hc := lt_fresh hfresh hc
  show W _ _ _ ⟨[(0, _), (1, _)], _, _⟩ _
  refine W.sR [2, 3] fun K hK => ?_
  refine st rfl rfl (e_boxA rfl) ?_
  refine st rfl rfl (e_boxA rfl) ?_
  refine st rfl rfl (e_assign rfl) ?_
  refine stEnd (hK _ [(2, _), (3, _)] _ _ rfl ?_)
  clear hK K
  refine W.seq ?_
  refine W.sR [2, 3, 9] fun K hK => ?_
  refine st rfl rfl (e_fieldAddr t28 t3 rfl rfl) ?_
  refine st rfl rfl (e_load1 t3 rfl rfl (by repeat (first | exact look_same | assumption | refine look_ne (by omega) ?_)) rfl) ?_
  refine st rfl rfl (e_fieldAddr t28 t3 rfl rfl) ?_
  refine st rfl rfl (e_load1 t3 rfl rfl (by repeat (first | exact look_same | assumption | refine look_ne (by omega) ?_)) rfl) ?_
  refine st rfl rfl (e_neq rfl rfl) ?_
  refine stB (fun hb1 => ?_) (fun hb1 => ?_)
  ·
    try simp only [decide_eq_true_eq, decide_eq_false_iff_not, Bool.not_eq_true', Bool.not_eq_false', Bool.not_eq_true, Bool.not_eq_false] at hb1
    refine stEnd (hK _ [(2, _), (3, _), (9, _)] _ _ rfl ?_)
    clear hK K
    refine W.condT rfl ?_
    refine W.sR [4] fun K hK => ?_
    refine st rfl rfl (e_assign rfl) ?_
    refine stEnd (hK _ [(4, _)] _ _ rfl ?_)
    clear hK K
    refine W.ret ?_
    refine thenR ?_
    refine ⟨.inr rfl, Ends.v0 (by repeat (first | exact self_old | assumption | refine set_old ?_ (by omega))) hfresh (by first | rfl | (simp [ltT, ltA, ltC, ltV]; try omega)) (res1 (resT rfl) rfl) ?_⟩
    first | simp_all | (simp_all; omega)
  ·
    try simp only [decide_eq_true_eq, decide_eq_false_iff_not, Bool.not_eq_true', Bool.not_eq_false', Bool.not_eq_true, Bool.not_eq_false] at hb1
    refine stEnd (hK _ [(2, _), (3, _), (9, _)] _ _ rfl ?_)
    clear hK K
    refine W.condF rfl ?_
    refine W.skip ?_
    refine thenN ?_
    refine W.seq ?_
    refine W.sR [2, 3, 14] fun K hK => ?_
    refine st rfl rfl (e_fieldAddr t28 t3 rfl rfl) ?_
    refine st rfl rfl (e_load1 t3 rfl rfl (by repeat (first | exact look_same | assumption | refine look_ne (by omega) ?_)) rfl) ?_
    refine st rfl rfl (e_fieldAddr t28 t3 rfl rfl) ?_
    refine st rfl rfl (e_load1 t3 rfl rfl (by repeat (first | exact look_same | assumption | refine look_ne (by omega) ?_)) rfl) ?_
    refine st rfl rfl (e_neq rfl rfl) ?_
    refine stB (fun hb2 => ?_) (fun hb2 => ?_)
    ·
      try simp only [decide_eq_true_eq, decide_eq_false_iff_not, Bool.not_eq_true', Bool.not_eq_false', Bool.not_eq_true, Bool.not_eq_false] at hb2
      refine stEnd (hK _ [(2, _), (3, _), (14, _)] _ _ rfl ?_)
      clear hK K
      refine W.condT rfl ?_
      refine W.sR [4] fun K hK => ?_
      refine st rfl rfl (e_assign rfl) ?_
      refine stEnd (hK _ [(4, _)] _ _ rfl ?_)
      clear hK K
      refine W.ret ?_
      refine thenR ?_
      refine ⟨.inr rfl, Ends.v0 (by repeat (first | exact self_old | assumption | refine set_old ?_ (by omega))) hfresh (by first | rfl | (simp [ltT, ltA, ltC, ltV]; try omega)) (res1 (resT rfl) rfl) ?_⟩
      first | simp_all | (simp_all; omega)
    ·
      try simp only [decide_eq_true_eq, decide_eq_false_iff_not, Bool.not_eq_true', Bool.not_eq_false', Bool.not_eq_true, Bool.not_eq_false] at hb2
      refine stEnd (hK _ [(2, _), (3, _), (14, _)] _ _ rfl ?_)
      clear hK K
      refine W.condF rfl ?_
      refine W.skip ?_
      refine thenN ?_
      refine W.seq ?_
      refine W.sR [2, 3, 19] fun K hK => ?_
      refine st rfl rfl (e_fieldAddr t28 t3 rfl rfl) ?_
      refine st rfl rfl (e_load1 t3 rfl rfl (by repeat (first | exact look_same | assumption | refine look_ne (by omega) ?_)) rfl) ?_
      refine st rfl rfl (e_fieldAddr t28 t3 rfl rfl) ?_
      refine st rfl rfl (e_load1 t3 rfl rfl (by repeat (first | exact look_same | assumption | refine look_ne (by omega) ?_)) rfl) ?_
      refine st rfl rfl (e_neq rfl rfl) ?_
      refine stB (fun hb3 => ?_) (fun hb3 => ?_)
      ·
        try simp only [decide_eq_true_eq, decide_eq_false_iff_not, Bool.not_eq_true', Bool.not_eq_false', Bool.not_eq_true, Bool.not_eq_false] at hb3
        refine stEnd (hK _ [(2, _), (3, _), (19, _)] _ _ rfl ?_)
        clear hK K
        refine W.condT rfl ?_
        refine W.sR [4] fun K hK => ?_
        refine st rfl rfl (e_assign rfl) ?_
        refine stEnd (hK _ [(4, _)] _ _ rfl ?_)
        clear hK K
        refine W.ret ?_
        refine thenR ?_
        refine ⟨.inr rfl, Ends.v0 (by repeat (first | exact self_old | assumption | refine set_old ?_ (by omega))) hfresh (by first | rfl | (simp [ltT, ltA, ltC, ltV]; try omega)) (res1 (resT rfl) rfl) ?_⟩
        first | simp_all | (simp_all; omega)
      ·
        try simp only [decide_eq_true_eq, decide_eq_false_iff_not, Bool.not_eq_true', Bool.not_eq_false', Bool.not_eq_true, Bool.not_eq_false] at hb3
        refine stEnd (hK _ [(2, _), (3, _), (19, _)] _ _ rfl ?_)
        clear hK K
        refine W.condF rfl ?_
        refine W.skip ?_
        refine thenN ?_
        refine W.seq ?_
        refine W.sR [25] fun K hK => ?_
        refine st rfl rfl (e_fieldAddr t28 t22 rfl rfl) ?_
        refine st rfl rfl (e_load1 t22 rfl rfl (by repeat (first | exact look_same | assumption | refine look_ne (by omega) ?_)) rfl) ?_
        refine st rfl rfl (e_fieldAddr t28 t22 rfl rfl) ?_
        refine st rfl rfl (e_load1 t22 rfl rfl (by repeat (first | exact look_same | assumption | refine look_ne (by omega) ?_)) rfl) ?_
        refine stC rfl rfl rfl (laws_eqIntA3S_s _ _ _ _ _ _ _ _ (by repeat (first | exact look_same | assumption | refine look_ne (by omega) ?_)) (by repeat (first | exact look_same | assumption | refine look_ne (by omega) ?_)) (by omega)) ?_
        refine st rfl rfl (e_not rfl) ?_
        refine stB (fun hb4 => ?_) (fun hb4 => ?_)
        ·
          try simp only [decide_eq_true_eq, decide_eq_false_iff_not, Bool.not_eq_true', Bool.not_eq_false', Bool.not_eq_true, Bool.not_eq_false] at hb4
          refine stEnd (hK _ [(25, _)] _ _ rfl ?_)
          clear hK K
          refine W.condT rfl ?_
          refine W.sR [4] fun K hK => ?_
          refine st rfl rfl (e_assign rfl) ?_
          refine stEnd (hK _ [(4, _)] _ _ rfl ?_)
          clear hK K
          refine W.ret ?_
          refine thenR ?_
          refine ⟨.inr rfl, Ends.v0 (by repeat (first | exact self_old | assumption | refine set_old ?_ (by omega))) hfresh (by first | rfl | (simp [ltT, ltA, ltC, ltV]; try omega)) (res1 (resT rfl) rfl) ?_⟩
          first | simp_all | (simp_all; omega)
        ·
          try simp only [decide_eq_true_eq, decide_eq_false_iff_not, Bool.not_eq_true', Bool.not_eq_false', Bool.not_eq_true, Bool.not_eq_false] at hb4
          refine stEnd (hK _ [(25, _)] _ _ rfl ?_)
          clear hK K
          refine W.condF rfl ?_
          refine W.skip ?_
          refine thenN ?_
          refine W.sR [4] fun K hK => ?_
          refine st rfl rfl (e_assign rfl) ?_
          refine stEnd (hK _ [(4, _)] _ _ rfl ?_)
          clear hK K
          refine W.ret ?_
          refine ⟨.inr rfl, Ends.v0 (by repeat (first | exact self_old | assumption | refine set_old ?_ (by omega))) hfresh (by first | rfl | (simp [ltT, ltA, ltC, ltV]; try omega)) (res1 (resT rfl) rfl) ?_⟩
          first | simp_all | (simp_all; omega)
set_option maxHeartbeats 1600000 in
theorem laws_FnExactStairOrders_ok (X Y Z : Int) (sv : Value) (cs : List C) (r : Nat)  (H : Heap) (n : Nat) (hr : RowC H r sv cs) (hrn : r ≤ n) (hlen : cs.length ≤ 1048576) (hh : isHeap X Y Z cs = true) (hst : stairC cs = true) (h9 : cs.length ≤ 9) : Fn Try.prog 10 [.agg #[.int .i64 X, .int .i64 Y, .int .i64 Z, sv]] H n (.bool true) (H) (n) := by
  refine Fn.intro' Try.func10 rfl (by kernel_rfl) Try.ntmps10 (by simp) (by omega) fun hfresh => ?_
  obtain ⟨sp0, se0, rfl⟩ := hr.form
  have hv := valid_of hh
  have hX := hv.box
  have hvl := vol_le hX
  show W _ _ _ ⟨[(0, _)], _, _⟩ _
  refine W.sR [1] fun K hK => ?_
  refine st rfl rfl (e_boxA rfl) ?_
  refine st rfl rfl (e_assign rfl) ?_
  refine stEnd (hK _ [(1, _)] _ _ rfl ?_)
  clear hK K
  refine W.sR [1, 3] fun K hK => ?_
  refine st rfl rfl (e_assign rfl) ?_
  refine stEnd (hK _ [(1, _), (3, _)] _ _ rfl ?_)
  clear hK K
  refine W.sR [1, 3] fun K hK => ?_
  refine st rfl rfl (e_loadA t24 rfl rfl (by repeat (first | exact look_same | assumption | refine look_ne (by omega) ?_)) rfl rfl) ?_
  refine st rfl rfl (e_move rfl) ?_
  refine stC rfl rfl rfl (laws_szHeap_s _ _ _ _ _ _ _ _ _ (by omega)) ?_
  rw [if_neg (by omega)]
  refine st rfl rfl (e_assign rfl) ?_
  refine stEnd (hK _ [(1, _), (3, _)] _ _ rfl ?_)
  clear hK K
  refine W.seq ?_
  refine W.sR [1, 13] fun K hK => ?_
  refine st rfl rfl (e_move rfl) ?_
  refine st rfl rfl (e_lss rfl rfl) ?_
  refine stB (fun hz => ?_) (fun hz => ?_)
  ·
    first | (have hz2 := of_decide_eq_true hz; omega) | (simp at hz; done) | (simp at hz; omega)
  ·
    try simp only [decide_eq_true_eq, decide_eq_false_iff_not, Bool.not_eq_true', Bool.not_eq_false', Bool.not_eq_true, Bool.not_eq_false] at hz
    refine stEnd (hK _ [(1, _), (13, _)] _ _ rfl ?_)
    clear hK K
    refine W.condF rfl ?_
    refine W.skip ?_
    refine thenN ?_
    refine W.sR [1, 4, 5] fun K hK => ?_
    refine st rfl rfl (e_loadA t24 rfl rfl (by repeat (first | exact look_same | assumption | refine look_ne (by omega) ?_)) rfl rfl) ?_
    refine stC rfl rfl rfl (laws_toHeap_s _ _ _ _ _ _ _ _ (RowC.keep hr (Nat.le_refl _) (by repeat (first | exact self_old | assumption | refine set_old ?_ (by omega)))) (by omega) (by omega)) ?_
    refine stC rfl rfl rfl (spec_StairOrders_ok_s _ _ _ _ _ _ _ _ (by repeat (first | exact look_same | assumption | refine look_ne (by omega) ?_)) (by omega) (by assumption) (by assumption) (by assumption)) ?_
    refine st rfl rfl (e_move rfl) ?_
    refine st rfl rfl (e_extract rfl rfl) ?_
    refine st rfl rfl (e_extract rfl rfl) ?_
    refine st rfl rfl (e_assign rfl) ?_
    refine st rfl rfl (e_assign rfl) ?_
    refine stEnd (hK _ [(1, _), (4, _), (5, _)] _ _ rfl ?_)
    clear hK K
    refine W.sR [1, 4, 5, 6] fun K hK => ?_
    refine st rfl rfl (e_loadA t24 rfl rfl (by repeat (first | exact look_same | assumption | refine look_ne (by omega) ?_)) rfl rfl) ?_
    refine stC rfl rfl rfl (laws_toHeap_s _ _ _ _ _ _ _ _ (RowC.keep hr (Nat.le_refl _) (by repeat (first | exact self_old | assumption | refine set_old ?_ (by omega)))) (by omega) (by omega)) ?_
    refine st rfl rfl (e_alloc t28 rfl) ?_
    refine stN rfl (e_storeA t28 rfl rfl (by repeat (first | exact look_same | assumption | refine look_ne (by omega) ?_)) rfl rfl rfl (by decide)) ?_
    refine stEnd (hK _ [(1, _), (4, _), (5, _), (6, _)] _ _ rfl ?_)
    clear hK K
    refine W.sR [1, 4, 5, 6, 7, 8] fun K hK => ?_
    refine st rfl rfl (e_loadA t28 rfl rfl (by repeat (first | exact look_same | assumption | refine look_ne (by omega) ?_)) rfl rfl) ?_
    refine stC rfl rfl rfl (impl_StairOrders_ok_s _ _ _ _ _ _ _ _ (by repeat (first | exact look_same | assumption | refine look_ne (by omega) ?_)) (by omega) (by assumption) (by assumption) (by assumption)) ?_
    refine st rfl rfl (e_move rfl) ?_
    refine st rfl rfl (e_extract rfl rfl) ?_
    refine st rfl rfl (e_extract rfl rfl) ?_
    refine st rfl rfl (e_assign rfl) ?_
    refine st rfl rfl (e_assign rfl) ?_
    refine stEnd (hK _ [(1, _), (4, _), (5, _), (6, _), (7, _), (8, _)] _ _ rfl ?_)
    clear hK K
    refine W.seq ?_
    refine W.sR [1, 6, 34] fun K hK => ?_
    refine st rfl rfl (e_move rfl) ?_
    refine st rfl rfl (e_move rfl) ?_
    refine st rfl rfl (e_neqI_same rfl rfl) ?_
    refine st rfl rfl (e_move rfl) ?_
    refine st rfl rfl (e_move rfl) ?_
    refine st rfl rfl (e_move rfl) ?_
    refine st rfl rfl (e_neqB_same t4 rfl rfl) ?_
    refine st rfl rfl (e_pickF rfl rfl) ?_
    refine stEnd (hK _ [(1, _), (6, _), (34, _)] _ _ rfl ?_)
    clear hK K
    refine W.condF rfl ?_
    refine W.skip ?_
    refine thenN ?_
    refine W.seq ?_
    refine W.sD [39] [0, 0, 2, 7, 15] (by kernel_rfl) (by kernel_rfl) fun K hK => ?_
    refine dL rfl rfl rfl (by omega) (accB_ok rfl) (e_loadA t28 rfl rfl (by repeat (first | exact look_same | assumption | refine look_ne (by omega) ?_)) rfl rfl) ?_
    refine dL rfl rfl rfl (by omega) (accB_ok rfl) (e_loadA t24 rfl rfl (by repeat (first | exact look_same | assumption | refine look_ne (by omega) ?_)) rfl rfl) ?_
    refine dC1 rfl rfl rfl rfl (laws_toHeap_s _ _ _ _ _ _ _ _ (RowC.keep hr (Nat.le_refl _) (by repeat (first | exact self_old | assumption | refine set_old ?_ (by omega) | refine hide_old ?_ (by omega) (by first | exact List.not_mem_nil | (simp [hidden, Nat.testBit]; done) | (simp [hidden, Nat.testBit]; omega))))) (by omega) (by omega)) (by repeat (first | exact trivial | refine And.intro (Or.inl rfl) ?_ | refine And.intro (Or.inr trivial) ?_ | refine And.intro (Or.inr (And.intro (Or.inl (by omega)) (by first | (simp; done) | (simp; omega)))) ?_ | refine And.intro (Or.inr (And.intro (Or.inr (by omega)) (by first | (simp; done) | (simp; omega)))) ?_ | refine And.intro (Or.inr (by simp [compat]; try omega)) ?_)) (by first | exact List.not_mem_nil | (simp [hidden, Nat.testBit]; done) | (simp [hidden, Nat.testBit]; omega)) ?_
    refine dC rfl rfl rfl rfl (laws_eqHeap_s _ _ _ _ _ _ _ _ _ _ _ _ _ _ (by repeat (first | exact look_same | assumption | refine look_ne (by omega) ?_ | refine look_hide (by omega) (by first | exact List.not_mem_nil | (simp [hidden, Nat.testBit]; done) | (simp [hidden, Nat.testBit]; omega)) ?_)) (by repeat (first | exact look_same | assumption | refine look_ne (by omega) ?_ | refine look_hide (by omega) (by first | exact List.not_mem_nil | (simp [hidden, Nat.testBit]; done) | (simp [hidden, Nat.testBit]; omega)) ?_)) (by omega)) (accB_ok rfl) ?_
    rw [decide_eq_true (by simp)]
    refine dP rfl rfl rfl (e_not rfl) ?_
    refine dEnd (hK _ [(39, _)] _ _ rfl ?_)
    clear hK K
    refine W.condF rfl ?_
    refine W.skip ?_
    refine thenN ?_
    refine W.sR [2] fun K hK => ?_
    refine st rfl rfl (e_assign rfl) ?_
    refine stEnd (hK _ [(2, _)] _ _ rfl ?_)
    clear hK K
    refine W.ret ?_
    refine ⟨.inr rfl, Ends.v0 (by repeat (first | exact self_old | assumption | refine set_old ?_ (by omega))) hfresh (by first | rfl | (simp [ltT, ltA, ltC, ltV]; try omega)) (res1 (resT rfl) rfl) ?_⟩
    first | rfl | (exfalso; omega)
theorem spec_StairOrders_no_s (X Y Z : Int) (b : Nat) (ro : Bool) (cs : List C) (H : Heap) (n : Nat) (hb : H b = some (.cells ro (flat cs))) (hlen : cs.length ≤ 1048576) (hno : (isHeap X Y Z cs && stairC cs && decide (cs.length ≤ 9)) = false) : Fn Try.prog 39 [.agg #[.int .i64 X, .int .i64 Y, .int .i64 Z, .slice (some ⟨b, 0, none⟩) cs.length 3]] H n (.tuple #[.int .i64 0, .bool false]) (H) (n) := by
  refine Fn.intro' Try.func39 rfl (by kernel_rfl) Try.ntmps39 (by simp) (by omega) fun hfresh => ?_
  have lt_hb := lt_fresh hfresh hb
  show W _ _ _ ⟨[(0, _)], _, _⟩ _
  refine W.sR [1] fun K hK => ?_
  refine st rfl rfl (e_boxA rfl) ?_
  refine st rfl rfl (e_assign rfl) ?_
  refine st rfl rfl (e_assign rfl) ?_
  refine stEnd (hK _ [(1, _)] _ _ rfl ?_)
  clear hK K
  refine W.seq ?_
  refine W.sR [1, 12] fun K hK => ?_
  refine st rfl rfl (e_loadA t28 rfl rfl (by repeat (first | exact look_same | assumption | refine look_ne (by omega) ?_)) rfl rfl) ?_
  refine stC rfl rfl rfl (spec_l5Good_s _ _ _ _ _ _ _ _ (by repeat (first | exact look_same | assumption | refine look_ne (by omega) ?_)) (by omega)) ?_
  refine st rfl rfl (e_not rfl) ?_
  refine st rfl rfl (e_move rfl) ?_
  refine stB (fun hg => ?_) (fun hg => ?_)
  ·
    try simp only [decide_eq_true_eq, decide_eq_false_iff_not, Bool.not_eq_true', Bool.not_eq_false', Bool.not_eq_true, Bool.not_eq_false] at hg
    refine stS rfl rfl ?_
    refine stS rfl rfl ?_
    refine stS rfl rfl ?_
    refine stS rfl rfl ?_
    refine st rfl rfl (e_pickT rfl rfl) ?_
    refine stEnd (hK _ [(1, _), (12, _)] _ _ rfl ?_)
    clear hK K
    refine W.condT rfl ?_
    refine W.sR [2, 3] fun K hK => ?_
    refine st rfl rfl (e_assign rfl) ?_
    refine st rfl rfl (e_assign rfl) ?_
    refine stEnd (hK _ [(2, _), (3, _)] _ _ rfl ?_)
    clear hK K
    refine W.ret ?_
    refine thenR ?_
    refine ⟨.inr rfl, Ends.v0 (by repeat (first | exact self_old | assumption | refine set_old ?_ (by omega))) hfresh (by first | rfl | (simp [ltT, ltA, ltC, ltV]; try omega)) (res2 (resT rfl) (resT rfl) rfl rfl) ?_⟩
    rfl
  ·
    try simp only [decide_eq_true_eq, decide_eq_false_iff_not, Bool.not_eq_true', Bool.not_eq_false', Bool.not_eq_true, Bool.not_eq_false] at hg
    refine st rfl rfl (e_fieldAddr t28 t22 rfl rfl) ?_
    refine st rfl rfl (e_load1 t22 rfl rfl (by repeat (first | exact look_same | assumption | refine look_ne (by omega) ?_)) rfl) ?_
    refine st rfl rfl (e_len t22 rfl) ?_
    refine st rfl rfl (e_gtr rfl rfl) ?_
    refine st rfl rfl (e_pickF rfl rfl) ?_
    refine stB (fun hz => ?_) (fun hz => ?_)
    ·
      try simp only [decide_eq_true_eq, decide_eq_false_iff_not, Bool.not_eq_true', Bool.not_eq_false', Bool.not_eq_true, Bool.not_eq_false] at hz
      refine stEnd (hK _ [(1, _), (12, _)] _ _ rfl ?_)
      clear hK K
      refine W.condT rfl ?_
      refine W.sR [2, 3] fun K hK => ?_
      refine st rfl rfl (e_assign rfl) ?_
      refine st rfl rfl (e_assign rfl) ?_
      refine stEnd (hK _ [(2, _), (3, _)] _ _ rfl ?_)
      clear hK K
      refine W.ret ?_
      refine thenR ?_
      refine ⟨.inr rfl, Ends.v0 (by repeat (first | exact self_old | assumption | refine set_old ?_ (by omega))) hfresh (by first | rfl | (simp [ltT, ltA, ltC, ltV]; try omega)) (res2 (resT rfl) (resT rfl) rfl rfl) ?_⟩
      rfl
    ·
      (exfalso; simp only [decide_eq_false_iff_not] at hz; rw [hg, Bool.true_and, decide_eq_false_iff_not] at hno; omega)
theorem impl_StairOrders_no_s (X Y Z : Int) (b : Nat) (ro : Bool) (cs : List C) (H : Heap) (n : Nat) (hb : H b = some (.cells ro (flat cs))) (hlen : cs.length ≤ 1048576) (hno : (isHeap X Y Z cs && stairC cs && decide (cs.length ≤ 9)) = false) : Fn Try.prog 40 [.agg #[.int .i64 X, .int .i64 Y, .int .i64 Z, .slice (some ⟨b, 0, none⟩) cs.length 3]] H n (.tuple #[.int .i64 0, .bool false]) (H) (n) := by
  refine Fn.intro' Try.func40 rfl (by kernel_rfl) Try.ntmps40 (by simp) (by omega) fun hfresh => ?_
  have lt_hb := lt_fresh hfresh hb
  show W _ _ _ ⟨[(0, _)], _, _⟩ _
  refine W.sR [1] fun K hK => ?_
  refine st rfl rfl (e_boxA rfl) ?_
  refine st rfl rfl (e_assign rfl) ?_
  refine st rfl rfl (e_assign rfl) ?_
  refine stEnd (hK _ [(1, _)] _ _ rfl ?_)
  clear hK K
  refine W.seq ?_
  refine W.sR [1, 14] fun K hK => ?_
  refine st rfl rfl (e_loadA t28 rfl rfl (by repeat (first | exact look_same | assumption | refine look_ne (by omega) ?_)) rfl rfl) ?_
  refine stC rfl rfl rfl (impl_isStair_s _ _ _ _ _ _ _ _ (by repeat (first | exact look_same | assumption | refine look_ne (by omega) ?_)) (by omega)) ?_
  refine st rfl rfl (e_not rfl) ?_
  refine st rfl rfl (e_move rfl) ?_
  refine stB (fun hg => ?_) (fun hg => ?_)
  ·
    try simp only [decide_eq_true_eq, decide_eq_false_iff_not, Bool.not_eq_true', Bool.not_eq_false', Bool.not_eq_true, Bool.not_eq_false] at hg
    refine stS rfl rfl ?_
    refine stS rfl rfl ?_
    refine stS rfl rfl ?_
    refine stS rfl rfl ?_
    refine st rfl rfl (e_pickT rfl rfl) ?_
    refine stEnd (hK _ [(1, _), (14, _)] _ _ rfl ?_)
    clear hK K
    refine W.condT rfl ?_
    refine W.sR [2, 3] fun K hK => ?_
    refine st rfl rfl (e_assign rfl) ?_
    refine st rfl rfl (e_assign rfl) ?_
    refine stEnd (hK _ [(2, _), (3, _)] _ _ rfl ?_)
    clear hK K
    refine W.ret ?_
    refine thenR ?_
    refine ⟨.inr rfl, Ends.v0 (by repeat (first | exact self_old | assumption | refine set_old ?_ (by omega))) hfresh (by first | rfl | (simp [ltT, ltA, ltC, ltV]; try omega)) (res2 (resT rfl) (resT rfl) rfl rfl) ?_⟩
    rfl
  ·
    try simp only [decide_eq_true_eq, decide_eq_false_iff_not, Bool.not_eq_true', Bool.not_eq_false', Bool.not_eq_true, Bool.not_eq_false] at hg
    refine st rfl rfl (e_fieldAddr t28 t22 rfl rfl) ?_
    refine st rfl rfl (e_load1 t22 rfl rfl (by repeat (first | exact look_same | assumption | refine look_ne (by omega) ?_)) rfl) ?_
    refine st rfl rfl (e_len t22 rfl) ?_
    refine st rfl rfl (e_gtr rfl rfl) ?_
    refine st rfl rfl (e_pickF rfl rfl) ?_
    refine stB (fun hz => ?_) (fun hz => ?_)
    ·
      try simp only [decide_eq_true_eq, decide_eq_false_iff_not, Bool.not_eq_true', Bool.not_eq_false', Bool.not_eq_true, Bool.not_eq_false] at hz
      refine stEnd (hK _ [(1, _), (14, _)] _ _ rfl ?_)
      clear hK K
      refine W.condT rfl ?_
      refine W.sR [2, 3] fun K hK => ?_
      refine st rfl rfl (e_assign rfl) ?_
      refine st rfl rfl (e_assign rfl) ?_
      refine stEnd (hK _ [(2, _), (3, _)] _ _ rfl ?_)
      clear hK K
      refine W.ret ?_
      refine thenR ?_
      refine ⟨.inr rfl, Ends.v0 (by repeat (first | exact self_old | assumption | refine set_old ?_ (by omega))) hfresh (by first | rfl | (simp [ltT, ltA, ltC, ltV]; try omega)) (res2 (resT rfl) (resT rfl) rfl rfl) ?_⟩
      rfl
    ·
      (exfalso; simp only [decide_eq_false_iff_not] at hz; rw [hg, Bool.true_and, decide_eq_false_iff_not] at hno; omega)
theorem laws_FnExactStairOrders_no (X Y Z : Int) (sv : Value) (cs : List C) (r : Nat)  (H : Heap) (n : Nat) (hr : RowC H r sv cs) (hrn : r ≤ n) (hlen : cs.length ≤ 1048576) (hno : (isHeap X Y Z cs && stairC cs && decide (cs.length ≤ 9)) = false) : Fn Try.prog 10 [.agg #[.int .i64 X, .int .i64 Y, .int .i64 Z, sv]] H n (.bool true) (H) (n) := by
  refine Fn.intro' Try.func10 rfl (by kernel_rfl) Try.ntmps10 (by simp) (by omega) fun hfresh => ?_
  obtain ⟨sp0, se0, rfl⟩ := hr.form
  show W _ _ _ ⟨[(0, _)], _, _⟩ _
  refine W.sR [1] fun K hK => ?_
  refine st rfl rfl (e_boxA rfl) ?_
  refine st rfl rfl (e_assign rfl) ?_
  refine stEnd (hK _ [(1, _)] _ _ rfl ?_)
  clear hK K
  refine W.sR [1, 3] fun K hK => ?_
  refine st rfl rfl (e_assign rfl) ?_
  refine stEnd (hK _ [(1, _), (3, _)] _ _ rfl ?_)
  clear hK K
  refine W.sR [1, 3] fun K hK => ?_
  refine st rfl rfl (e_loadA t24 rfl rfl (by repeat (first | exact look_same | assumption | refine look_ne (by omega) ?_)) rfl rfl) ?_
  refine st rfl rfl (e_move rfl) ?_
  refine stC rfl rfl rfl (laws_szHeap_s _ _ _ _ _ _ _ _ _ (by omega)) ?_
  rw [if_neg (by omega)]
  refine st rfl rfl (e_assign rfl) ?_
  refine stEnd (hK _ [(1, _), (3, _)] _ _ rfl ?_)
  clear hK K
  refine W.seq ?_
  refine W.sR [1, 13] fun K hK => ?_
  refine st rfl rfl (e_move rfl) ?_
  refine st rfl rfl (e_lss rfl rfl) ?_
  refine stB (fun hz => ?_) (fun hz => ?_)
  ·
    first | (have hz2 := of_decide_eq_true hz; omega) | (simp at hz; done) | (simp at hz; omega)
  ·
    try simp only [decide_eq_true_eq, decide_eq_false_iff_not, Bool.not_eq_true', Bool.not_eq_false', Bool.not_eq_true, Bool.not_eq_false] at hz
    refine stEnd (hK _ [(1, _), (13, _)] _ _ rfl ?_)
    clear hK K
    refine W.condF rfl ?_
    refine W.skip ?_
    refine thenN ?_
    refine W.sR [1, 4, 5] fun K hK => ?_
    refine st rfl rfl (e_loadA t24 rfl rfl (by repeat (first | exact look_same | assumption | refine look_ne (by omega) ?_)) rfl rfl) ?_
    refine stC rfl rfl rfl (laws_toHeap_s _ _ _ _ _ _ _ _ (RowC.keep hr (Nat.le_refl _) (by repeat (first | exact self_old | assumption | refine set_old ?_ (by omega)))) (by omega) (by omega)) ?_
    refine stC rfl rfl rfl (spec_StairOrders_no_s _ _ _ _ _ _ _ _ (by repeat (first | exact look_same | assumption | refine look_ne (by omega) ?_)) (by omega) (by assumption)) ?_
    refine st rfl rfl (e_move rfl) ?_
    refine st rfl rfl (e_extract rfl rfl) ?_
    refine st rfl rfl (e_extract rfl rfl) ?_
    refine st rfl rfl (e_assign rfl) ?_
    refine st rfl rfl (e_assign rfl) ?_
    refine stEnd (hK _ [(1, _), (4, _), (5, _)] _ _ rfl ?_)
    clear hK K
    refine W.sR [1, 4, 5, 6] fun K hK => ?_
    refine st rfl rfl (e_loadA t24 rfl rfl (by repeat (first | exact look_same | assumption | refine look_ne (by omega) ?_)) rfl rfl) ?_
    refine stC rfl rfl rfl (laws_toHeap_s _ _ _ _ _ _ _ _ (RowC.keep hr (Nat.le_refl _) (by repeat (first | exact self_old | assumption | refine set_old ?_ (by omega)))) (by omega) (by omega)) ?_
    refine st rfl rfl (e_alloc t28 rfl) ?_
    refine stN rfl (e_storeA t28 rfl rfl (by repeat (first | exact look_same | assumption | refine look_ne (by omega) ?_)) rfl rfl rfl (by decide)) ?_
    refine stEnd (hK _ [(1, _), (4, _), (5, _), (6, _)] _ _ rfl ?_)
    clear hK K
    refine W.sR [1, 4, 5, 6, 7, 8] fun K hK => ?_
    refine st rfl rfl (e_loadA t28 rfl rfl (by repeat (first | exact look_same | assumption | refine look_ne (by omega) ?_)) rfl rfl) ?_
    refine stC rfl rfl rfl (impl_StairOrders_no_s _ _ _ _ _ _ _ _ (by repeat (first | exact look_same | assumption | refine look_ne (by omega) ?_)) (by omega) (by assumption)) ?_
    refine st rfl rfl (e_move rfl) ?_
    refine st rfl rfl (e_extract rfl rfl) ?_
    refine st rfl rfl (e_extract rfl rfl) ?_
    refine st rfl rfl (e_assign rfl) ?_
    refine st rfl rfl (e_assign rfl) ?_
    refine stEnd (hK _ [(1, _), (4, _), (5, _), (6, _), (7, _), (8, _)] _ _ rfl ?_)
    clear hK K
    refine W.seq ?_
    refine W.sR [1, 6, 34] fun K hK => ?_
    refine st rfl rfl (e_move rfl) ?_
    refine st rfl rfl (e_move rfl) ?_
    refine st rfl rfl (e_neqI_same rfl rfl) ?_
    refine st rfl rfl (e_move rfl) ?_
    refine st rfl rfl (e_move rfl) ?_
    refine st rfl rfl (e_move rfl) ?_
    refine st rfl rfl (e_neqB_same t4 rfl rfl) ?_
    refine st rfl rfl (e_pickF rfl rfl) ?_
    refine stEnd (hK _ [(1, _), (6, _), (34, _)] _ _ rfl ?_)
    clear hK K
    refine W.condF rfl ?_
    refine W.skip ?_
    refine thenN ?_
    refine W.seq ?_
    refine W.sD [39] [0, 0, 2, 7, 15] (by kernel_rfl) (by kernel_rfl) fun K hK => ?_
    refine dL rfl rfl rfl (by omega) (accB_ok rfl) (e_loadA t28 rfl rfl (by repeat (first | exact look_same | assumption | refine look_ne (by omega) ?_)) rfl rfl) ?_
    refine dL rfl rfl rfl (by omega) (accB_ok rfl) (e_loadA t24 rfl rfl (by repeat (first | exact look_same | assumption | refine look_ne (by omega) ?_)) rfl rfl) ?_
    refine dC1 rfl rfl rfl rfl (laws_toHeap_s _ _ _ _ _ _ _ _ (RowC.keep hr (Nat.le_refl _) (by repeat (first | exact self_old | assumption | refine set_old ?_ (by omega) | refine hide_old ?_ (by omega) (by first | exact List.not_mem_nil | (simp [hidden, Nat.testBit]; done) | (simp [hidden, Nat.testBit]; omega))))) (by omega) (by omega)) (by repeat (first | exact trivial | refine And.intro (Or.inl rfl) ?_ | refine And.intro (Or.inr trivial) ?_ | refine And.intro (Or.inr (And.intro (Or.inl (by omega)) (by first | (simp; done) | (simp; omega)))) ?_ | refine And.intro (Or.inr (And.intro (Or.inr (by omega)) (by first | (simp; done) | (simp; omega)))) ?_ | refine And.intro (Or.inr (by simp [compat]; try omega)) ?_)) (by first | exact List.not_mem_nil | (simp [hidden, Nat.testBit]; done) | (simp [hidden, Nat.testBit]; omega)) ?_
    refine dC rfl rfl rfl rfl (laws_eqHeap_s _ _ _ _ _ _ _ _ _ _ _ _ _ _ (by repeat (first | exact look_same | assumption | refine look_ne (by omega) ?_ | refine look_hide (by omega) (by first | exact List.not_mem_nil | (simp [hidden, Nat.testBit]; done) | (simp [hidden, Nat.testBit]; omega)) ?_)) (by repeat (first | exact look_same | assumption | refine look_ne (by omega) ?_ | refine look_hide (by omega) (by first | exact List.not_mem_nil | (simp [hidden, Nat.testBit]; done) | (simp [hidden, Nat.testBit]; omega)) ?_)) (by omega)) (accB_ok rfl) ?_
    rw [decide_eq_true (by simp)]
    refine dP rfl rfl rfl (e_not rfl) ?_
    refine dEnd (hK _ [(39, _)] _ _ rfl ?_)
    clear hK K
    refine W.condF rfl ?_
    refine W.skip ?_
    refine thenN ?_
    refine W.sR [2] fun K hK => ?_
    refine st rfl rfl (e_assign rfl) ?_
    refine stEnd (hK _ [(2, _)] _ _ rfl ?_)
    clear hK K
    refine W.ret ?_
    refine ⟨.inr rfl, Ends.v0 (by repeat (first | exact self_old | assumption | refine set_old ?_ (by omega))) hfresh (by first | rfl | (simp [ltT, ltA, ltC, ltV]; try omega)) (res1 (resT rfl) rfl) ?_⟩
    first | rfl | (exfalso; omega)
theorem laws_FnExactStairOrders_big (X Y Z : Int) (sv : Value) (cs : List C) (r : Nat)  (H : Heap) (n : Nat) (hr : RowC H r sv cs) (hrn : r ≤ n) (hlen : ¬ cs.length ≤ 1048576) (hmax : cs.length ≤ 9223372036854775807) : Fn Try.prog 10 [.agg #[.int .i64 X, .int .i64 Y, .int .i64 Z, sv]] H n (.bool true) (H) (n) := by
  refine Fn.intro' Try.func10 rfl (by kernel_rfl) Try.ntmps10 (by simp) (by omega) fun hfresh => ?_
  obtain ⟨sp0, se0, rfl⟩ := hr.form
  show W _ _ _ ⟨[(0, _)], _, _⟩ _
  refine W.sR [1] fun K hK => ?_
  refine st rfl rfl (e_boxA rfl) ?_
  refine st rfl rfl (e_assign rfl) ?_
  refine stEnd (hK _ [(1, _)] _ _ rfl ?_)
  clear hK K
  refine W.sR [1, 3] fun K hK => ?_
  refine st rfl rfl (e_assign rfl) ?_
  refine stEnd (hK _ [(1, _), (3, _)] _ _ rfl ?_)
  clear hK K
  refine W.sR [1, 3] fun K hK => ?_
  refine st rfl rfl (e_loadA t24 rfl rfl (by repeat (first | exact look_same | assumption | refine look_ne (by omega) ?_)) rfl rfl) ?_
  refine st rfl rfl (e_move rfl) ?_
  refine stC rfl rfl rfl (laws_szHeap_s _ _ _ _ _ _ _ _ _ (by omega)) ?_
  rw [if_pos (by omega)]
  refine st rfl rfl (e_assign rfl) ?_
  refine stEnd (hK _ [(1, _), (3, _)] _ _ rfl ?_)
  clear hK K
  refine W.seq ?_
  refine W.sR [1, 13] fun K hK => ?_
  refine st rfl rfl (e_move rfl) ?_
  refine st rfl rfl (e_lss rfl rfl) ?_
  refine stB (fun hz => ?_) (fun hz => ?_)
  ·
    try simp only [decide_eq_true_eq, decide_eq_false_iff_not, Bool.not_eq_true', Bool.not_eq_false', Bool.not_eq_true, Bool.not_eq_false] at hz
    refine stEnd (hK _ [(1, _), (13, _)] _ _ rfl ?_)
    clear hK K
    refine W.condT rfl ?_
    refine W.sR [2] fun K hK => ?_
    refine st rfl rfl (e_assign rfl) ?_
    refine stEnd (hK _ [(2, _)] _ _ rfl ?_)
    clear hK K
    refine W.ret ?_
    refine thenR ?_
    refine ⟨.inr rfl, Ends.v0 (by repeat (first | exact self_old | assumption | refine set_old ?_ (by omega))) hfresh (by first | rfl | (simp [ltT, ltA, ltC, ltV]; try omega)) (res1 (resT rfl) rfl) ?_⟩
    rfl
  ·
    first | (simp at hz; done) | (simp at hz; omega)
end Go.Sep.Walks
