/- Part of a proof: qstep1 -/
import Derived.Test.Ytohmojljepjimaaqstep0
namespace Go.Sep.Walks
open Go Go.Sep Go.Proofs
set_option linter.unusedVariables false
set_option linter.unusedSimpArgs false
theorem slices_IndexFuncintint_s (b : Nat) (ro : Bool) (zs : List Int) (fid : Nat) (caps : List Value) (f : Int → Bool) (H : Heap) (n : Nat) (hb : H b = some (.cells ro (ints zs))) (hlen : zs.length ≤ 1048576) (hf : ∀ (G : Heap) (m : Nat) (i : Nat), i < zs.length → n ≤ m → (∀ x k, x < n → H x = some k → G x = some k) → Fn Try.prog fid (.int .i64 (at1 zs i) :: caps) G m (.bool (f (at1 zs i))) G m) : Fn Try.prog 156 [.slice (some ⟨b, 0, none⟩) zs.length 1, .func (.func fid) #[] (List.toArray caps)] H n (.int .i64 (idxI f zs)) (H) (n) := by
  refine Fn.intro' Try.func156 rfl (by kernel_rfl) Try.ntmps156 (by simp) (by omega) fun hfresh => ?_
  have lt_hb := lt_fresh hfresh hb
  show W _ _ _ ⟨[(0, _), (1, _)], _, _⟩ _
  refine W.sR [0, 1] fun K hK => ?_
  refine st rfl rfl (e_assign rfl) ?_
  refine stEnd (hK _ [(0, _), (1, _)] _ _ rfl ?_)
  clear hK K
  refine W.seq ?_
  refine W.sR [0, 1, 7, 8] fun K hK => ?_
  refine st rfl rfl (e_move rfl) ?_
  refine st rfl rfl (e_len t40 rfl) ?_
  refine st rfl rfl (e_move rfl) ?_
  refine stEnd (hK _ [(0, _), (1, _), (7, _), (8, _)] _ _ rfl ?_)
  clear hK K
  refine W.block ?_
  refine W.ord [8, 0, 1, 7] (ts' := [(8, _)] ++ [(0, _), (1, _), (7, _)]) rfl ?_
  refine W.loopC [(8, _)] [] (fun κ V G μ => ∃ i : Nat, V = [(8, .int .i64 (i : Nat))] ∧ κ = zs.length - i ∧ (i ≤ zs.length) ∧ (∀ j, j < i → f (at1 zs j) = false)) _ ⟨0, rfl, rfl, (by first | omega | assumption | rfl | simp_all), (fun j hj => absurd hj (by omega))⟩ fun κ V G μ hinv hμ hkeep hfr => ?_
  obtain ⟨i, rfl, rfl, hi, hq⟩ := hinv
  refine W.sR [0, 1, 7, 8, 9] fun K hK => ?_
  refine st rfl rfl (e_lss rfl rfl) ?_
  refine stB (fun hb1 => ?_) (fun hb1 => ?_)
  ·
    try simp only [decide_eq_true_eq, decide_eq_false_iff_not, Bool.not_eq_true', Bool.not_eq_false', Bool.not_eq_true, Bool.not_eq_false] at hb1
    refine stEnd (hK _ [(0, _), (1, _), (7, _), (8, _), (9, _)] _ _ rfl ?_)
    clear hK K
    refine W.seq ?_
    refine W.condT rfl ?_
    refine W.skip ?_
    refine thenN ?_
    refine W.seq ?_
    refine W.block ?_
    refine W.sR [0, 1, 5, 7, 8] fun K hK => ?_
    refine st rfl rfl (e_move rfl) ?_
    refine st rfl rfl (e_assign rfl) ?_
    refine stEnd (hK _ [(0, _), (1, _), (5, _), (7, _), (8, _)] _ _ rfl ?_)
    clear hK K
    refine W.sR [0, 1, 5, 7, 8, 16] fun K hK => ?_
    refine st rfl rfl (e_move rfl) ?_
    refine st rfl rfl (e_move rfl) ?_
    refine st rfl rfl (e_move rfl) ?_
    refine st rfl rfl (e_idxSK _ t40 t3 rfl rfl rfl (by first | omega | decide)) ?_
    refine st rfl rfl (e_load1 t3 rfl rfl (by repeat (first | exact look_same | assumption | refine look_ne (by omega) ?_ | refine look_keep (by assumption) (by omega) (by simp; try omega) ?_)) (ints_at (by omega))) ?_
    refine stC rfl rfl rfl (hf _ _ i (by omega) (by omega) (by repeat (first | exact self_old | assumption | refine set_old ?_ (by omega) | refine keep_old (by assumption) ?_ (by omega) (by simp; try omega)))) ?_
    refine stB (fun hb9 => ?_) (fun hb9 => ?_)
    ·
      try simp only [decide_eq_true_eq, decide_eq_false_iff_not, Bool.not_eq_true', Bool.not_eq_false', Bool.not_eq_true, Bool.not_eq_false] at hb9
      refine stEnd (hK _ [(0, _), (1, _), (5, _), (7, _), (8, _), (16, _)] _ _ rfl ?_)
      clear hK K
      refine W.condT rfl ?_
      refine W.sR [4] fun K hK => ?_
      refine st rfl rfl (e_move rfl) ?_
      refine st rfl rfl (e_assign rfl) ?_
      refine stEnd (hK _ [(4, _)] _ _ rfl ?_)
      clear hK K
      refine W.ret ?_
      refine blockR ?_
      refine thenR ?_
      refine thenR ?_
      refine blockR ?_
      refine thenR ?_
      refine ⟨.inr rfl, Ends.v0 (by repeat (first | exact self_old | assumption | refine set_old ?_ (by omega) | refine keep_old (by assumption) ?_ (by omega) (by simp; try omega))) hfresh (by first | rfl | (simp [ltT, ltA, ltC, ltV]; try omega)) (res1 (resT rfl) rfl) ?_⟩
      rw [idxI_at (by omega) hq hb9]
    ·
      try simp only [decide_eq_true_eq, decide_eq_false_iff_not, Bool.not_eq_true', Bool.not_eq_false', Bool.not_eq_true, Bool.not_eq_false] at hb9
      refine stEnd (hK _ [(0, _), (1, _), (5, _), (7, _), (8, _), (16, _)] _ _ rfl ?_)
      clear hK K
      refine W.condF rfl ?_
      refine W.skip ?_
      refine blockN ?_
      refine thenN ?_
      refine W.rR [8, 0, 1, 7] fun K hK => ?_
      refine st rfl rfl (e_add rfl rfl (inB _ (by omega))) ?_
      refine st rfl rfl (e_move rfl) ?_
      refine stEnd (hK _ [(8, _), (0, _), (1, _), (7, _)] _ _ rfl ?_)
      clear hK K
      exact roundN (V' := [(8, _)]) [8, 0, 1, 7] rfl (by omega) (by repeat (first | exact Keeps.refl _ _ _ | assumption | refine Keeps.trans ?_ (by assumption) (by omega) (by simp; try omega) | refine Keeps.set ?_ (by first | exact Or.inl (by omega) | (simp; done) | (simp; omega)) | refine Keeps.del ?_ (by first | exact Or.inl (by omega) | (simp; done) | (simp; omega)))) _ (by omega) ⟨i + 1, rfl, rfl, (by first | omega | assumption | simp_all), (all_succ hq hb9)⟩
  ·
    try simp only [decide_eq_true_eq, decide_eq_false_iff_not, Bool.not_eq_true', Bool.not_eq_false', Bool.not_eq_true, Bool.not_eq_false] at hb1
    refine stEnd (hK _ [(0, _), (1, _), (7, _), (8, _), (9, _)] _ _ rfl ?_)
    clear hK K
    refine W.seq ?_
    refine W.condF rfl ?_
    refine W.exit ?_
    refine thenE ?_
    refine thenE ?_
    refine blockX ?_
    refine thenN ?_
    refine W.sR [4] fun K hK => ?_
    refine st rfl rfl (e_assign rfl) ?_
    refine stEnd (hK _ [(4, _)] _ _ rfl ?_)
    clear hK K
    refine W.ret ?_
    refine ⟨.inr rfl, Ends.v0 (by repeat (first | exact self_old | assumption | refine set_old ?_ (by omega) | refine keep_old (by assumption) ?_ (by omega) (by simp; try omega))) hfresh (by first | rfl | (simp [ltT, ltA, ltC, ltV]; try omega)) (res1 (resT rfl) rfl) ?_⟩
    rw [idxI_no (fun j hj => hq j (by omega))]
theorem slices_DeleteFuncintint_s (b : Nat) (zs : List Int) (fid : Nat) (caps : List Value) (f : Int → Bool) (H : Heap) (n : Nat) (hb : H b = some (.cells false (ints zs))) (hlen : zs.length ≤ 1048576) (hf : ∀ (G : Heap) (m : Nat) (i : Nat), i < zs.length → n ≤ m → (∀ x k, x < n → x ≠ b → H x = some k → G x = some k) → Fn Try.prog fid (.int .i64 (at1 zs i) :: caps) G m (.bool (f (at1 zs i))) G m) : Fn Try.prog 144 [.slice (some ⟨b, 0, none⟩) zs.length 1, .func (.func fid) #[] (List.toArray caps)] H n ((delV b f zs)) (H.set b (.cells false (ints (kept f zs ++ padI f zs)))) (n) := by
  refine Fn.intro' Try.func144 rfl (by kernel_rfl) Try.ntmps144 (by simp) (by omega) fun hfresh => ?_
  have lt_hb := lt_fresh hfresh hb
  show W _ _ _ ⟨[(0, _), (1, _)], _, _⟩ _
  refine W.sR [0, 1] fun K hK => ?_
  refine st rfl rfl (e_assign rfl) ?_
  refine stEnd (hK _ [(0, _), (1, _)] _ _ rfl ?_)
  clear hK K
  refine W.sR [0, 1, 5] fun K hK => ?_
  refine st rfl rfl (e_move rfl) ?_
  refine st rfl rfl (e_move rfl) ?_
  refine stC rfl rfl rfl (slices_IndexFuncintint_s _ _ _ _ _ f _ _ (by repeat (first | exact look_same | assumption | refine look_ne (by omega) ?_ | refine look_keep (by assumption) (by omega) (by simp; try omega) ?_)) (by omega) (fun G m i hi hm hG => hf G m i hi hm (fun x k hx _ hk => hG x k hx hk))) ?_
  refine st rfl rfl (e_assign rfl) ?_
  refine stEnd (hK _ [(0, _), (1, _), (5, _)] _ _ rfl ?_)
  clear hK K
  refine W.seq ?_
  refine W.sR [0, 1, 5, 12] fun K hK => ?_
  refine st rfl rfl (e_move rfl) ?_
  refine st rfl rfl (e_eql rfl rfl) ?_
  refine stB (fun hx0 => ?_) (fun hx0 => ?_)
  ·
    try simp only [decide_eq_true_eq, decide_eq_false_iff_not, Bool.not_eq_true', Bool.not_eq_false', Bool.not_eq_true, Bool.not_eq_false] at hx0
    have hall := idxI_none hx0
    refine stEnd (hK _ [(0, _), (1, _), (5, _), (12, _)] _ _ rfl ?_)
    clear hK K
    refine W.condT rfl ?_
    refine W.sR [4] fun K hK => ?_
    refine st rfl rfl (e_move rfl) ?_
    refine st rfl rfl (e_assign rfl) ?_
    refine stEnd (hK _ [(4, _)] _ _ rfl ?_)
    clear hK K
    refine W.ret ?_
    refine thenR ?_
    refine ⟨.inr rfl, Ends.vU (by omega) (by repeat (first | exact OldBut.self | assumption | refine OldBut.set ?_ (by first | exact Or.inl (by omega) | (simp; done) | (simp; omega)) | refine OldBut.keep (by assumption) ?_ (by omega) (by simp; try omega))) hfresh (by repeat (first | exact look_same | assumption | refine look_ne (by omega) ?_ | refine look_keep (by assumption) (by omega) (by simp; try omega) ?_)) ?_ (ints_plain _) (delV_lt (by omega) _ _) (res1 (resT rfl) (by first | rfl | exact subV_tup _ _ _ _)) ?_⟩
    · rw [padI_all (kept_all hall)]
    · rw [delV_all (kept_all hall)]
  ·
    try simp only [decide_eq_true_eq, decide_eq_false_iff_not, Bool.not_eq_true', Bool.not_eq_false', Bool.not_eq_true, Bool.not_eq_false] at hx0
    obtain ⟨i0, hi0, hf0, hq0, e0⟩ := idxI_some hx0
    rw [e0]
    refine stEnd (hK _ [(0, _), (1, _), (5, _), (12, _)] _ _ rfl ?_)
    clear hK K
    refine W.condF rfl ?_
    refine W.skip ?_
    refine thenN ?_
    refine W.seq ?_
    refine W.sR [0, 1, 5, 6] fun K hK => ?_
    refine st rfl rfl (e_move rfl) ?_
    refine st rfl rfl (e_add rfl rfl (inB _ (by omega))) ?_
    refine st rfl rfl (e_assign rfl) ?_
    refine stEnd (hK _ [(0, _), (1, _), (5, _), (6, _)] _ _ rfl ?_)
    clear hK K
    refine W.block ?_
    refine W.ord [5, 6, 0, 1] (ts' := [(5, _), (6, _)] ++ [(0, _), (1, _)]) rfl ?_
    refine W.loopC [(5, _), (6, _)] [b] (fun κ V G μ => ∃ i : Nat, V = [(5, .int .i64 (((keptN f zs i).length : Nat) : Int)), (6, .int .i64 (i : Nat))] ∧ κ = zs.length - i ∧ (i0 < i ∧ i ≤ zs.length) ∧ (G b = some (.cells false (ints (delR f zs i))))) _ ⟨i0 + 1, (by rw [(delR_init hi0 hf0 hq0).1]; rfl), rfl, (by first | omega | assumption | rfl | simp_all), (by rw [(delR_init hi0 hf0 hq0).2]; exact (by repeat (first | exact look_same | assumption | refine look_ne (by omega) ?_ | refine look_keep (by assumption) (by omega) (by simp; try omega) ?_)))⟩ fun κ V G μ hinv hμ hkeep hfr => ?_
    obtain ⟨i, rfl, rfl, hi, hG⟩ := hinv
    refine W.seq ?_
    refine W.sR [0, 1, 5, 6, 19] fun K hK => ?_
    refine st rfl rfl (e_move rfl) ?_
    refine st rfl rfl (e_move rfl) ?_
    refine st rfl rfl (e_len t40 rfl) ?_
    refine st rfl rfl (e_lss rfl rfl) ?_
    refine stB (fun hb2 => ?_) (fun hb2 => ?_)
    ·
      try simp only [decide_eq_true_eq, decide_eq_false_iff_not, Bool.not_eq_true', Bool.not_eq_false', Bool.not_eq_true, Bool.not_eq_false] at hb2
      refine stEnd (hK _ [(0, _), (1, _), (5, _), (6, _), (19, _)] _ _ rfl ?_)
      clear hK K
      refine W.condT rfl ?_
      refine W.skip ?_
      refine thenN ?_
      refine W.seq ?_
      refine W.block ?_
      have hkl := kept_len f zs i
      refine W.sR [0, 1, 5, 6, 7] fun K hK => ?_
      refine st rfl rfl (e_move rfl) ?_
      refine st rfl rfl (e_move rfl) ?_
      refine st rfl rfl (e_idxSK _ t40 t3 rfl rfl rfl (by first | omega | decide)) ?_
      refine st rfl rfl (e_load1 t3 rfl rfl (by repeat (first | exact look_same | assumption | refine look_ne (by omega) ?_ | refine look_keep (by assumption) (by omega) (by simp; try omega) ?_)) (ints_at (by rw [delR_len _ _ (by omega)]; omega))) ?_
      rw [delR_at (Nat.le_refl _) (by omega)]
      refine st rfl rfl (e_assign rfl) ?_
      refine stEnd (hK _ [(0, _), (1, _), (5, _), (6, _), (7, _)] _ _ rfl ?_)
      clear hK K
      refine W.sR [0, 1, 5, 6, 7, 29] fun K hK => ?_
      refine st rfl rfl (e_move rfl) ?_
      refine st rfl rfl (e_move rfl) ?_
      refine stC rfl rfl rfl (hf _ _ i (by omega) (by omega) (fun x k hx hxb hk => (by repeat (first | exact look_same | assumption | refine look_ne (by omega) ?_ | refine look_keep (by assumption) (by omega) (by simp; try omega) ?_)))) ?_
      refine st rfl rfl (e_not rfl) ?_
      refine stB (fun hz9 => ?_) (fun hz9 => ?_)
      ·
        try simp only [decide_eq_true_eq, decide_eq_false_iff_not, Bool.not_eq_true', Bool.not_eq_false', Bool.not_eq_true, Bool.not_eq_false] at hz9
        refine stEnd (hK _ [(0, _), (1, _), (5, _), (6, _), (7, _), (29, _)] _ _ rfl ?_)
        clear hK K
        refine W.condT rfl ?_
        refine W.sR [0, 1, 5, 6] fun K hK => ?_
        refine st rfl rfl (e_move rfl) ?_
        refine st rfl rfl (e_move rfl) ?_
        refine st rfl rfl (e_move rfl) ?_
        refine st rfl rfl (e_idxSK ((keptN f zs i).length) t40 t3 rfl rfl (by first | rfl | omega) (by have := kept_len f zs i; omega)) ?_
        refine stN rfl (e_store1 t3 rfl rfl rfl (by repeat (first | exact look_same | assumption | refine look_ne (by omega) ?_ | refine look_keep (by assumption) (by omega) (by simp; try omega) ?_)) (by rw [ints_length, delR_len _ _ (by omega)]; have := kept_len f zs i; omega)) ?_
        refine stEnd (hK _ [(0, _), (1, _), (5, _), (6, _)] _ _ rfl ?_)
        clear hK K
        refine W.rR [0, 1, 5, 6] fun K hK => ?_
        refine st rfl rfl (e_move rfl) ?_
        refine st rfl rfl (e_add rfl rfl (inB _ (by omega))) ?_
        refine st rfl rfl (e_assign rfl) ?_
        refine stEnd (hK _ [(0, _), (1, _), (5, _), (6, _)] _ _ rfl ?_)
        clear hK K
        refine blockN ?_
        refine thenN ?_
        refine W.rR [5, 6, 0, 1] fun K hK => ?_
        refine st rfl rfl (e_move rfl) ?_
        refine st rfl rfl (e_add rfl rfl (inB _ (by omega))) ?_
        refine st rfl rfl (e_assign rfl) ?_
        refine stEnd (hK _ [(5, _), (6, _), (0, _), (1, _)] _ _ rfl ?_)
        clear hK K
        exact roundN (V' := [(5, _), (6, _)]) [5, 6, 0, 1] rfl (by omega) (by repeat (first | exact Keeps.refl _ _ _ | assumption | refine Keeps.trans ?_ (by assumption) (by omega) (by simp; try omega) | refine Keeps.set ?_ (by first | exact Or.inl (by omega) | (simp; done) | (simp; omega)) | refine Keeps.del ?_ (by first | exact Or.inl (by omega) | (simp; done) | (simp; omega)))) _ (by omega) ⟨i + 1, (by rw [kept_F (by omega) hz9]; simp), rfl, (by first | omega | assumption | simp_all), (look_same.trans (congrArg some (congrArg (Blk.cells false) (ints_set1.trans (congrArg ints (delR_F (by omega) hz9))))))⟩
      ·
        try simp only [decide_eq_true_eq, decide_eq_false_iff_not, Bool.not_eq_true', Bool.not_eq_false', Bool.not_eq_true, Bool.not_eq_false] at hz9
        refine stEnd (hK _ [(0, _), (1, _), (5, _), (6, _), (7, _), (29, _)] _ _ rfl ?_)
        clear hK K
        refine W.condF rfl ?_
        refine W.skip ?_
        refine blockN ?_
        refine thenN ?_
        refine W.rR [5, 6, 0, 1] fun K hK => ?_
        refine st rfl rfl (e_move rfl) ?_
        refine st rfl rfl (e_add rfl rfl (inB _ (by omega))) ?_
        refine st rfl rfl (e_assign rfl) ?_
        refine stEnd (hK _ [(5, _), (6, _), (0, _), (1, _)] _ _ rfl ?_)
        clear hK K
        exact roundN (V' := [(5, _), (6, _)]) [5, 6, 0, 1] rfl (by omega) (by repeat (first | exact Keeps.refl _ _ _ | assumption | refine Keeps.trans ?_ (by assumption) (by omega) (by simp; try omega) | refine Keeps.set ?_ (by first | exact Or.inl (by omega) | (simp; done) | (simp; omega)) | refine Keeps.del ?_ (by first | exact Or.inl (by omega) | (simp; done) | (simp; omega)))) _ (by omega) ⟨i + 1, (by rw [kept_T (by omega) hz9]; rfl), rfl, (by first | omega | assumption | simp_all), (by rw [delR_T (by omega) hz9]; exact (by repeat (first | exact look_same | assumption | refine look_ne (by omega) ?_ | refine look_keep (by assumption) (by omega) (by simp; try omega) ?_)))⟩
    ·
      try simp only [decide_eq_true_eq, decide_eq_false_iff_not, Bool.not_eq_true', Bool.not_eq_false', Bool.not_eq_true, Bool.not_eq_false] at hb2
      refine stEnd (hK _ [(0, _), (1, _), (5, _), (6, _), (19, _)] _ _ rfl ?_)
      clear hK K
      refine W.condF rfl ?_
      refine W.exit ?_
      refine thenE ?_
      refine thenE ?_
      refine blockX ?_
      refine thenN ?_
      obtain rfl : i = zs.length := by omega
      rw [kept_end f rfl]
      refine W.sR [0, 5] fun K hK => ?_
      refine st rfl rfl (e_move rfl) ?_
      refine st rfl rfl (e_move rfl) ?_
      refine st rfl rfl (e_sliceLo ((kept f zs).length) t40 t3 rfl rfl rfl (kept_le _ _)) ?_
      refine stN rfl (e_clear t40 t3 rfl rfl (by repeat (first | exact look_same | assumption | refine look_ne (by omega) ?_ | refine look_keep (by assumption) (by omega) (by simp; try omega) ?_)) (by first | exact kept_le _ _ | omega) (by rw [ints_length, delR_len _ _ (by omega)]; omega)) ?_
      refine stEnd (hK _ [(0, _), (5, _)] _ _ rfl ?_)
      clear hK K
      refine W.sR [4] fun K hK => ?_
      refine st rfl rfl (e_move rfl) ?_
      refine st rfl rfl (e_move rfl) ?_
      refine st rfl rfl (e_sliceHi ((kept f zs).length) t40 t3 rfl rfl rfl (kept_le _ _)) ?_
      refine st rfl rfl (e_assign rfl) ?_
      refine stEnd (hK _ [(4, _)] _ _ rfl ?_)
      clear hK K
      refine W.ret ?_
      refine ⟨.inr rfl, Ends.vU (by omega) (by repeat (first | exact OldBut.self | assumption | refine OldBut.set ?_ (by first | exact Or.inl (by omega) | (simp; done) | (simp; omega)) | refine OldBut.keep (by assumption) ?_ (by omega) (by simp; try omega))) hfresh (by repeat (first | exact look_same | assumption | refine look_ne (by omega) ?_ | refine look_keep (by assumption) (by omega) (by simp; try omega) ?_)) ?_ (ints_plain _) (delV_lt (by omega) _ _) (res1 (resT rfl) (by first | rfl | exact subV_tup _ _ _ _)) ?_⟩
      · exact delR_fin rfl
      · rw [delV_some hi0 hf0]
theorem impl_top_apart_s (Y : Int) (b : Nat) (hs : List Int) (p q : Int) (H : Heap) (n : Nat) (hb : H b = some (.cells false (ints hs))) (hp : 0 ≤ p ∧ p < (hs.length : Int)) (hq : 0 ≤ q ∧ q < (hs.length : Int)) (hbd : ∀ j, 0 ≤ at1 hs j ∧ at1 hs j ≤ 64) : Fn Try.prog 81 [.agg #[.slice (some ⟨b, 0, none⟩) hs.length 1, .int .i64 Y], .int .i64 p, .int .i64 q] H n (.int .i64 (max (at1 hs p.toNat - at1 hs q.toNat) (at1 hs q.toNat - at1 hs p.toNat))) (H) (n) := by
  refine Fn.intro' Try.func81 rfl (by kernel_rfl) Try.ntmps81 (by simp) (by omega) fun hfresh => ?_
  have lt_hb := lt_fresh hfresh hb
  have h1 := hbd p.toNat
  have h2 := hbd q.toNat
  show W _ _ _ ⟨[(0, _), (1, _), (2, _)], _, _⟩ _
  refine W.sR [1, 2, 3] fun K hK => ?_
  refine st rfl rfl (e_boxA rfl) ?_
  refine st rfl rfl (e_assign rfl) ?_
  refine stEnd (hK _ [(1, _), (2, _), (3, _)] _ _ rfl ?_)
  clear hK K
  refine W.sD [6] [0, 1, 0, 7, 15, 0, 32, 0, 224, 480, 1023, 0, 2048, 0, 14336, 30720, 0, 65536, 0, 458752, 983040, 2095104, 4194303, 8388607] (by kernel_rfl) (by kernel_rfl) fun K hK => ?_
  refine dP rfl rfl rfl (e_fieldAddr t88 t40 rfl rfl) ?_
  refine dL rfl rfl rfl (by omega) (accB_ok rfl) (e_load1 t40 rfl rfl (by repeat (first | exact look_same | assumption | refine look_ne (by omega) ?_)) rfl) ?_
  refine dP rfl rfl rfl (e_move rfl) ?_
  refine dP rfl rfl rfl (e_idxSK (p.toNat) t40 t3 rfl rfl (by omega) (by omega)) ?_
  refine dL rfl rfl rfl (by omega) (accB_ok rfl) (e_load1 t3 rfl rfl (by repeat (first | exact look_same | assumption | refine look_ne (by omega) ?_)) (ints_at (by omega))) ?_
  refine dP rfl rfl rfl (e_fieldAddr t88 t40 rfl rfl) ?_
  refine dL rfl rfl rfl (by omega) (accB_ok rfl) (e_load1 t40 rfl rfl (by repeat (first | exact look_same | assumption | refine look_ne (by omega) ?_)) rfl) ?_
  refine dP rfl rfl rfl (e_move rfl) ?_
  refine dP rfl rfl rfl (e_idxSK (q.toNat) t40 t3 rfl rfl (by omega) (by omega)) ?_
  refine dL rfl rfl rfl (by omega) (accB_ok rfl) (e_load1 t3 rfl rfl (by repeat (first | exact look_same | assumption | refine look_ne (by omega) ?_)) (ints_at (by omega))) ?_
  refine dP rfl rfl rfl (e_sub rfl rfl (inB _ (by omega))) ?_
  refine dP rfl rfl rfl (e_fieldAddr t88 t40 rfl rfl) ?_
  refine dL rfl rfl rfl (by omega) (accB_ok rfl) (e_load1 t40 rfl rfl (by repeat (first | exact look_same | assumption | refine look_ne (by omega) ?_)) rfl) ?_
  refine dP rfl rfl rfl (e_move rfl) ?_
  refine dP rfl rfl rfl (e_idxSK (q.toNat) t40 t3 rfl rfl (by omega) (by omega)) ?_
  refine dL rfl rfl rfl (by omega) (accB_ok rfl) (e_load1 t3 rfl rfl (by repeat (first | exact look_same | assumption | refine look_ne (by omega) ?_)) (ints_at (by omega))) ?_
  refine dP rfl rfl rfl (e_fieldAddr t88 t40 rfl rfl) ?_
  refine dL rfl rfl rfl (by omega) (accB_ok rfl) (e_load1 t40 rfl rfl (by repeat (first | exact look_same | assumption | refine look_ne (by omega) ?_)) rfl) ?_
  refine dP rfl rfl rfl (e_move rfl) ?_
  refine dP rfl rfl rfl (e_idxSK (p.toNat) t40 t3 rfl rfl (by omega) (by omega)) ?_
  refine dL rfl rfl rfl (by omega) (accB_ok rfl) (e_load1 t3 rfl rfl (by repeat (first | exact look_same | assumption | refine look_ne (by omega) ?_)) (ints_at (by omega))) ?_
  refine dP rfl rfl rfl (e_sub rfl rfl (inB _ (by omega))) ?_
  refine dP rfl rfl rfl (e_max2 rfl rfl) ?_
  refine dP rfl rfl rfl (e_assign rfl) ?_
  refine dEnd (hK _ [(6, _)] _ _ rfl ?_)
  clear hK K
  refine W.ret ?_
  refine ⟨.inr rfl, Ends.v0 (by repeat (first | exact self_old | assumption | refine set_old ?_ (by omega))) hfresh (by first | rfl | (simp [ltT, ltA, ltC, ltV]; try omega)) (res1 (resT rfl) rfl) ?_⟩
  rfl
theorem impl_top_steps_1_s (q : Int) (pa pb pc : Nat) (Y : Int) (b : Nat) (hs : List Int) (p s : Int) (H : Heap) (n : Nat) (hpa : H pa = some (.cells false [.slice (some ⟨b, 0, none⟩) hs.length 1, .int .i64 Y])) (hpb : H pb = some (.cells false [.int .i64 p])) (hpc : H pc = some (.cells false [.int .i64 s])) (hb : H b = some (.cells false (ints hs))) (hp : 0 ≤ p ∧ p < (hs.length : Int)) (hq : 0 ≤ q ∧ q < (hs.length : Int)) (hbd : ∀ j, 0 ≤ at1 hs j ∧ at1 hs j ≤ 64) : Fn Try.prog 145 [.int .i64 q, .pointer (some ⟨pa, 0, none⟩), .pointer (some ⟨pb, 0, none⟩), .pointer (some ⟨pc, 0, none⟩)] H n (.bool (stF hs p s q)) (H) (n) := by
  refine Fn.intro' Try.func145 rfl (by kernel_rfl) Try.ntmps145 (by simp) (by omega) fun hfresh => ?_
  have lt_hpa := lt_fresh hfresh hpa
  have lt_hpb := lt_fresh hfresh hpb
  have lt_hpc := lt_fresh hfresh hpc
  have lt_hb := lt_fresh hfresh hb
  show W _ _ _ ⟨[(0, _), (1, _), (2, _), (3, _)], _, _⟩ _
  refine W.sR [0, 1, 2, 3] fun K hK => ?_
  refine st rfl rfl (e_assign rfl) ?_
  refine stEnd (hK _ [(0, _), (1, _), (2, _), (3, _)] _ _ rfl ?_)
  clear hK K
  refine W.sD [5] [0, 0, 0, 7, 0, 31, 63] (by kernel_rfl) (by kernel_rfl) fun K hK => ?_
  refine dL rfl rfl rfl (by omega) (accB_ok rfl) (e_loadA t88 rfl rfl (by repeat (first | exact look_same | assumption | refine look_ne (by omega) ?_)) rfl rfl) ?_
  refine dL rfl rfl rfl (by omega) (accB_ok rfl) (e_load1 t3 rfl rfl (by repeat (first | exact look_same | assumption | refine look_ne (by omega) ?_)) rfl) ?_
  refine dP rfl rfl rfl (e_move rfl) ?_
  refine dC rfl rfl rfl rfl (impl_top_apart_s _ _ hs _ _ _ _ (by repeat (first | exact look_same | assumption | refine look_ne (by omega) ?_ | refine look_hide (by omega) (by first | exact List.not_mem_nil | (simp [hidden, Nat.testBit]; done) | (simp [hidden, Nat.testBit]; omega)) ?_)) (by omega) (by omega) (by assumption)) (accB_ok rfl) ?_
  refine dL rfl rfl rfl (by omega) (by repeat (first | exact trivial | refine And.intro (Or.inl rfl) ?_ | refine And.intro (Or.inr trivial) ?_ | refine And.intro (Or.inr (And.intro (Or.inl (by omega)) (by first | (simp; done) | (simp; omega)))) ?_ | refine And.intro (Or.inr (And.intro (Or.inr (by omega)) (by first | (simp; done) | (simp; omega)))) ?_ | refine And.intro (Or.inr (by simp [compat]; try omega)) ?_)) (e_load1 t3 rfl rfl (by repeat (first | exact look_same | assumption | refine look_ne (by omega) ?_)) rfl) ?_
  refine dP rfl rfl rfl (e_gtr rfl rfl) ?_
  refine dP rfl rfl rfl (e_assign rfl) ?_
  refine dEnd (hK _ [(5, _)] _ _ rfl ?_)
  clear hK K
  refine W.ret ?_
  refine ⟨.inr rfl, Ends.v0 (by repeat (first | exact self_old | assumption | refine set_old ?_ (by omega))) hfresh (by first | rfl | (simp [ltT, ltA, ltC, ltV]; try omega)) (res1 (resT rfl) rfl) ?_⟩
  rfl
theorem impl_top_steps_s (Y : Int) (b : Nat) (hs : List Int) (p s : Int) (H : Heap) (n : Nat) (hY : 1 ≤ Y ∧ Y ≤ 4) (hb : H b = some (.cells false (ints hs))) (hlen : hs.length ≤ 1048576) (hp : 0 ≤ p ∧ p < (hs.length : Int)) (hbd : ∀ j, 0 ≤ at1 hs j ∧ at1 hs j ≤ 64) (hnb : ∀ q ∈ (nearL Y hs.length p.toNat), 0 ≤ q ∧ q < (hs.length : Int)) (hbn : b < n) : Fn Try.prog 103 [.agg #[.slice (some ⟨b, 0, none⟩) hs.length 1, .int .i64 Y], .int .i64 p, .int .i64 s] H n ((delV n (stF hs p s) (nearL Y hs.length p.toNat))) (H.set n (.cells false (ints (kept (stF hs p s) (nearL Y hs.length p.toNat) ++ padI (stF hs p s) (nearL Y hs.length p.toNat))))) (n + 1) := by
  refine Fn.intro' Try.func103 rfl (by kernel_rfl) Try.ntmps103 (by simp) (by omega) fun hfresh => ?_
  have lt_hb := lt_fresh hfresh hb
  have hnl := near_len Y hs.length p.toNat
  show W _ _ _ ⟨[(0, _), (1, _), (2, _)], _, _⟩ _
  refine W.sR [3, 4, 5] fun K hK => ?_
  refine st rfl rfl (e_boxA rfl) ?_
  refine st rfl rfl (e_box1 rfl rfl) ?_
  refine st rfl rfl (e_box1 rfl rfl) ?_
  refine st rfl rfl (e_assign rfl) ?_
  refine stEnd (hK _ [(3, _), (4, _), (5, _)] _ _ rfl ?_)
  clear hK K
  refine W.sR [6] fun K hK => ?_
  refine st rfl rfl (e_loadA t88 rfl rfl (by repeat (first | exact look_same | assumption | refine look_ne (by omega) ?_)) rfl rfl) ?_
  refine st rfl rfl (e_load1 t3 rfl rfl (by repeat (first | exact look_same | assumption | refine look_ne (by omega) ?_)) rfl) ?_
  refine stC rfl rfl rfl (impl_top_near_i_s _ _ hs _ _ _ (by omega) (by omega) (by omega) (by omega)) ?_
  refine st rfl rfl (e_makeFunc rfl rfl) ?_
  refine stC rfl rfl rfl (slices_DeleteFuncintint_s _ (nearL Y hs.length p.toNat) _ _ (stF hs p s) _ _ (by repeat (first | exact look_same | assumption | refine look_ne (by omega) ?_)) (by omega) (fun G m i hi hm hG => impl_top_steps_1_s (at1 (nearL Y hs.length p.toNat) i) _ _ _ Y b hs p s G m (hG _ _ (by omega) (by omega) (by repeat (first | exact look_same | assumption | refine look_ne (by omega) ?_ | refine look_keep (by assumption) (by omega) (by simp; try omega) ?_))) (hG _ _ (by omega) (by omega) (by repeat (first | exact look_same | assumption | refine look_ne (by omega) ?_ | refine look_keep (by assumption) (by omega) (by simp; try omega) ?_))) (hG _ _ (by omega) (by omega) (by repeat (first | exact look_same | assumption | refine look_ne (by omega) ?_ | refine look_keep (by assumption) (by omega) (by simp; try omega) ?_))) (hG _ _ (by omega) (by omega) (by repeat (first | exact look_same | assumption | refine look_ne (by omega) ?_ | refine look_keep (by assumption) (by omega) (by simp; try omega) ?_))) hp (hnb _ (at1_mem hi)) hbd)) ?_
  refine st rfl rfl (e_assign rfl) ?_
  refine stEnd (hK _ [(6, _)] _ _ rfl ?_)
  clear hK K
  refine W.ret ?_
  refine ⟨.inr rfl, Ends.v1 (n + 1 + 1 + 1) (by omega) (by repeat (first | exact self_old | assumption | refine set_old ?_ (by omega))) hfresh (by repeat (first | exact look_same | assumption | refine look_ne (by omega) ?_)) ?_ (ints_plain _) (delV_lt (by omega) _ _) (res1 (resT rfl) (delV_tup _ _ _)) ?_⟩
  · rfl
  · (rw [delV_ren]; simp [one])
theorem impl_StepColumns_ok_s (X Y Z : Int) (b : Nat) (ro : Bool) (cs : List C) (p s : Int) (H : Heap) (n : Nat) (hb : H b = some (.cells ro (flat cs))) (hlen : cs.length ≤ 1048576) (hh : isHeap X Y Z cs = true) (hp : 0 ≤ p ∧ p < X * Y) (hs : 0 ≤ s) : Fn Try.prog 45 [.agg #[.int .i64 X, .int .i64 Y, .int .i64 Z, .slice (some ⟨b, 0, none⟩) cs.length 3], .int .i64 p, .int .i64 s] H n (.tuple #[delV n (stF (topsN X Y cs cs.length) p s) (nearL Y (X * Y).toNat p.toNat), .bool true]) (H.set n (.cells false (ints (kept (stF (topsN X Y cs cs.length) p s) (nearL Y (X * Y).toNat p.toNat) ++ padI (stF (topsN X Y cs cs.length) p s) (nearL Y (X * Y).toNat p.toNat))))) (n + 1) := by
  refine Fn.intro' Try.func45 rfl (by kernel_rfl) Try.ntmps45 (by simp) (by omega) fun hfresh => ?_
  have lt_hb := lt_fresh hfresh hb
  have hX := sides_bd (isHeap_sides hh)
  have hin : ∀ j, j < cs.length → inBox X Y Z (at3 cs j) = true := fun j hj => isHeap_in hh hj
  have hxy := mulXY hX.1 hX.2.1
  have htl := topsN_length X Y cs cs.length
  have htb := topsN_bd (show 0 ≤ Z by omega) hin cs.length (Nat.le_refl _)
  have htb4 : ∀ j, 0 ≤ at1 (topsN X Y cs cs.length) j ∧ at1 (topsN X Y cs cs.length) j ≤ 4 := fun j => by have := htb j; omega
  have htb6 : ∀ j, 0 ≤ at1 (topsN X Y cs cs.length) j ∧ at1 (topsN X Y cs cs.length) j ≤ 64 := fun j => by have := htb j; omega
  have hnb0 := near_bd hX (show p.toNat < (X * Y).toNat by omega)
  have hnb : ∀ q ∈ nearL Y (topsN X Y cs cs.length).length p.toNat, 0 ≤ q ∧ q < ((topsN X Y cs cs.length).length : Int) := by rw [htl]; exact hnb0
  show W _ _ _ ⟨[(0, _), (1, _), (2, _)], _, _⟩ _
  refine W.sR [1, 2, 3] fun K hK => ?_
  refine st rfl rfl (e_boxA rfl) ?_
  refine st rfl rfl (e_assign rfl) ?_
  refine st rfl rfl (e_assign rfl) ?_
  refine stEnd (hK _ [(1, _), (2, _), (3, _)] _ _ rfl ?_)
  clear hK K
  refine W.seq ?_
  refine W.sR [1, 2, 3, 13] fun K hK => ?_
  refine st rfl rfl (e_loadA t30 rfl rfl (by repeat (first | exact look_same | assumption | refine look_ne (by omega) ?_)) rfl rfl) ?_
  refine st rfl rfl (e_move rfl) ?_
  refine st rfl rfl (e_move rfl) ?_
  refine st rfl rfl (e_buildSlice rfl rfl (bsl40_1 rfl)) ?_
  refine stC rfl rfl rfl (impl_isTop_s _ _ _ _ _ _ _ _ _ [p] _ _ (by repeat (first | exact look_same | assumption | refine look_ne (by omega) ?_)) (by omega) (by repeat (first | exact look_same | assumption | refine look_ne (by omega) ?_)) (by simp)) ?_
  rw [topB_one hh hp hs]
  refine st rfl rfl (e_not rfl) ?_
  refine stEnd (hK _ [(1, _), (2, _), (3, _), (13, _)] _ _ rfl ?_)
  clear hK K
  refine W.condF rfl ?_
  refine W.skip ?_
  refine thenN ?_
  refine W.sR [6, 7] fun K hK => ?_
  refine st rfl rfl (e_loadA t30 rfl rfl (by repeat (first | exact look_same | assumption | refine look_ne (by omega) ?_)) rfl rfl) ?_
  refine stC rfl rfl rfl (impl_Heap_top_s _ _ _ _ _ _ _ _ (by repeat (first | exact look_same | assumption | refine look_ne (by omega) ?_)) (by omega) (by omega) (by assumption)) ?_
  refine st rfl rfl (e_move rfl) ?_
  refine st rfl rfl (e_move rfl) ?_
  refine stC rfl rfl rfl (impl_top_steps_s _ _ (topsN X Y cs cs.length) _ _ _ _ (by omega) (by repeat (first | exact look_same | assumption | refine look_ne (by omega) ?_)) (by omega) (by omega) (by assumption) (by assumption) (by omega)) ?_
  rw [htl]
  refine st rfl rfl (e_assign rfl) ?_
  refine st rfl rfl (e_assign rfl) ?_
  refine stEnd (hK _ [(6, _), (7, _)] _ _ rfl ?_)
  clear hK K
  refine W.ret ?_
  refine ⟨.inr rfl, Ends.v1 (n + 1 + 1 + 1) (by omega) (by repeat (first | exact self_old | assumption | refine set_old ?_ (by omega))) hfresh (by repeat (first | exact look_same | assumption | refine look_ne (by omega) ?_)) ?_ (ints_plain _) (by simp only [ltT, List.all_cons, List.all_nil, Bool.and_true]; exact (Bool.and_eq_true _ _).mpr ⟨delV_ltV (by omega) _ _, rfl⟩) (res2 (resT rfl) (resT rfl) (delV_tup _ _ _) rfl) ?_⟩
  · rfl
  · (simp only [renT, List.map_toArray, List.map_cons, List.map_nil, delV_renV]; simp [one, renV, renC, renA])
theorem laws_eqIntS_p_s (b : Nat) (ro : Bool) (xs pad : List Int) (c : Nat) (ro2 : Bool) (ys : List Int) (H : Heap) (n : Nat) (hb : H b = some (.cells ro (ints (xs ++ pad)))) (hc : H c = some (.cells ro2 (ints ys))) (hxs : xs.length ≤ 1048576) : Fn Try.prog 29 [.slice (some ⟨b, 0, none⟩) xs.length 1, .slice (some ⟨c, 0, none⟩) ys.length 1] H n (.bool (decide (xs = ys))) (H) (n) := by
  refine Fn.intro' Try.func29 rfl (by kernel_rfl) Try.ntmps29 (by simp) (by omega) fun hfresh => ?_
  have lt_hb := lt_fresh hfresh hb
  have lt_hc := lt_fresh hfresh hc
  show W _ _ _ ⟨[(0, _), (1, _)], _, _⟩ _
  refine W.sR [0, 1] fun K hK => ?_
  refine st rfl rfl (e_assign rfl) ?_
  refine stEnd (hK _ [(0, _), (1, _)] _ _ rfl ?_)
  clear hK K
  refine W.seq ?_
  refine W.sR [0, 1, 10] fun K hK => ?_
  refine st rfl rfl (e_move rfl) ?_
  refine st rfl rfl (e_len t40 rfl) ?_
  refine st rfl rfl (e_move rfl) ?_
  refine st rfl rfl (e_len t40 rfl) ?_
  refine st rfl rfl (e_neq rfl rfl) ?_
  refine stB (fun hlen => ?_) (fun hlen => ?_)
  ·
    try simp only [decide_eq_true_eq, decide_eq_false_iff_not, Bool.not_eq_true', Bool.not_eq_false', Bool.not_eq_true, Bool.not_eq_false] at hlen
    refine stEnd (hK _ [(0, _), (1, _), (10, _)] _ _ rfl ?_)
    clear hK K
    refine W.condT rfl ?_
    refine W.sR [4] fun K hK => ?_
    refine st rfl rfl (e_assign rfl) ?_
    refine stEnd (hK _ [(4, _)] _ _ rfl ?_)
    clear hK K
    refine W.ret ?_
    refine thenR ?_
    refine ⟨.inr rfl, Ends.v0 (by repeat (first | exact self_old | assumption | refine set_old ?_ (by omega) | refine keep_old (by assumption) ?_ (by omega) (by simp; try omega))) hfresh (by first | rfl | (simp [ltT, ltA, ltC, ltV]; try omega)) (res1 (resT rfl) rfl) ?_⟩
    first | (rw [decide_eq_true (ext1 (by omega) (fun j hj => hq j (by omega)))]) | (congr 1; refine (decide_eq_false ?_).symm; intro e; subst e; first | (exact absurd rfl (by assumption)) | omega)
  ·
    try simp only [decide_eq_true_eq, decide_eq_false_iff_not, Bool.not_eq_true', Bool.not_eq_false', Bool.not_eq_true, Bool.not_eq_false] at hlen
    refine stEnd (hK _ [(0, _), (1, _), (10, _)] _ _ rfl ?_)
    clear hK K
    refine W.condF rfl ?_
    refine W.skip ?_
    refine thenN ?_
    refine W.seq ?_
    refine W.sR [0, 1, 5] fun K hK => ?_
    refine st rfl rfl (e_assign rfl) ?_
    refine stEnd (hK _ [(0, _), (1, _), (5, _)] _ _ rfl ?_)
    clear hK K
    refine W.block ?_
    refine W.ord [5, 0, 1] (ts' := [(5, _)] ++ [(0, _), (1, _)]) rfl ?_
    refine W.loopC [(5, _)] [] (fun κ V G μ => ∃ i : Nat, V = [(5, .int .i64 (i : Nat))] ∧ κ = xs.length - i ∧ (i ≤ xs.length) ∧ (∀ j, j < i → at1 xs j = at1 ys j)) _ ⟨0, rfl, rfl, (by first | omega | assumption | rfl | simp_all), (fun j hj => absurd hj (by omega))⟩ fun κ V G μ hinv hμ hkeep hfr => ?_
    obtain ⟨i, rfl, rfl, hi, hq⟩ := hinv
    refine W.seq ?_
    refine W.sR [0, 1, 5, 14] fun K hK => ?_
    refine st rfl rfl (e_move rfl) ?_
    refine st rfl rfl (e_move rfl) ?_
    refine st rfl rfl (e_len t40 rfl) ?_
    refine st rfl rfl (e_lss rfl rfl) ?_
    refine stB (fun hb2 => ?_) (fun hb2 => ?_)
    ·
      try simp only [decide_eq_true_eq, decide_eq_false_iff_not, Bool.not_eq_true', Bool.not_eq_false', Bool.not_eq_true, Bool.not_eq_false] at hb2
      refine stEnd (hK _ [(0, _), (1, _), (5, _), (14, _)] _ _ rfl ?_)
      clear hK K
      refine W.condT rfl ?_
      refine W.skip ?_
      refine thenN ?_
      refine W.seq ?_
      refine W.block ?_
      refine W.sD [0, 1, 5, 25] [0, 0, 3, 7, 0, 0, 48, 112, 255] (by kernel_rfl) (by kernel_rfl) fun K hK => ?_
      refine dP rfl rfl rfl (e_move rfl) ?_
      refine dP rfl rfl rfl (e_move rfl) ?_
      refine dP rfl rfl rfl (e_idxSK _ t40 t3 rfl rfl rfl (by first | omega | decide)) ?_
      refine dL rfl rfl rfl (by omega) (accB_ok rfl) (e_load1 t3 rfl rfl (by repeat (first | exact look_same | assumption | refine look_ne (by omega) ?_ | refine look_keep (by assumption) (by omega) (by simp; try omega) ?_)) (show _ = some (Value.int .i64 (at1 xs i)) from (ints_at (zs := xs ++ pad) (by rw [List.length_append]; omega)).trans (congrArg (fun z => some (Value.int .i64 z)) (at1_app (by omega))))) ?_
      refine dP rfl rfl rfl (e_move rfl) ?_
      refine dP rfl rfl rfl (e_move rfl) ?_
      refine dP rfl rfl rfl (e_idxSK _ t40 t3 rfl rfl rfl (by first | omega | decide)) ?_
      refine dL rfl rfl rfl (by omega) (accB_ok rfl) (e_load1 t3 rfl rfl (by repeat (first | exact look_same | assumption | refine look_ne (by omega) ?_ | refine look_keep (by assumption) (by omega) (by simp; try omega) ?_)) (ints_at (by omega))) ?_
      refine dP rfl rfl rfl (e_neq rfl rfl) ?_
      refine dB (fun hb3 => ?_) (fun hb3 => ?_)
      ·
        try simp only [decide_eq_true_eq, decide_eq_false_iff_not, Bool.not_eq_true', Bool.not_eq_false', Bool.not_eq_true, Bool.not_eq_false] at hb3
        refine dEnd (hK _ [(0, _), (1, _), (5, _), (25, _)] _ _ rfl ?_)
        clear hK K
        refine W.condT rfl ?_
        refine W.sR [4] fun K hK => ?_
        refine st rfl rfl (e_assign rfl) ?_
        refine stEnd (hK _ [(4, _)] _ _ rfl ?_)
        clear hK K
        refine W.ret ?_
        refine blockR ?_
        refine thenR ?_
        refine thenR ?_
        refine blockR ?_
        refine thenR ?_
        refine ⟨.inr rfl, Ends.v0 (by repeat (first | exact self_old | assumption | refine set_old ?_ (by omega) | refine keep_old (by assumption) ?_ (by omega) (by simp; try omega))) hfresh (by first | rfl | (simp [ltT, ltA, ltC, ltV]; try omega)) (res1 (resT rfl) rfl) ?_⟩
        first | (rw [decide_eq_true (ext1 (by omega) (fun j hj => hq j (by omega)))]) | (congr 1; refine (decide_eq_false ?_).symm; intro e; subst e; first | (exact absurd rfl (by assumption)) | omega)
      ·
        try simp only [decide_eq_true_eq, decide_eq_false_iff_not, Bool.not_eq_true', Bool.not_eq_false', Bool.not_eq_true, Bool.not_eq_false] at hb3
        refine dEnd (hK _ [(0, _), (1, _), (5, _), (25, _)] _ _ rfl ?_)
        clear hK K
        refine W.condF rfl ?_
        refine W.skip ?_
        refine blockN ?_
        refine thenN ?_
        refine W.rR [5, 0, 1] fun K hK => ?_
        refine st rfl rfl (e_move rfl) ?_
        refine st rfl rfl (e_add rfl rfl (inB _ (by omega))) ?_
        refine st rfl rfl (e_assign rfl) ?_
        refine stEnd (hK _ [(5, _), (0, _), (1, _)] _ _ rfl ?_)
        clear hK K
        exact roundN (V' := [(5, _)]) [5, 0, 1] rfl (by omega) (by repeat (first | exact Keeps.refl _ _ _ | assumption | refine Keeps.trans ?_ (by assumption) (by omega) (by simp; try omega) | refine Keeps.set ?_ (by first | exact Or.inl (by omega) | (simp; done) | (simp; omega)) | refine Keeps.del ?_ (by first | exact Or.inl (by omega) | (simp; done) | (simp; omega)))) _ (by omega) ⟨i + 1, rfl, rfl, (by first | omega | assumption | simp_all), (all_succ hq (by assumption))⟩
    ·
      try simp only [decide_eq_true_eq, decide_eq_false_iff_not, Bool.not_eq_true', Bool.not_eq_false', Bool.not_eq_true, Bool.not_eq_false] at hb2
      refine stEnd (hK _ [(0, _), (1, _), (5, _), (14, _)] _ _ rfl ?_)
      clear hK K
      refine W.condF rfl ?_
      refine W.exit ?_
      refine thenE ?_
      refine thenE ?_
      refine blockX ?_
      refine thenN ?_
      refine W.sR [4] fun K hK => ?_
      refine st rfl rfl (e_assign rfl) ?_
      refine stEnd (hK _ [(4, _)] _ _ rfl ?_)
      clear hK K
      refine W.ret ?_
      refine ⟨.inr rfl, Ends.v0 (by repeat (first | exact self_old | assumption | refine set_old ?_ (by omega) | refine keep_old (by assumption) ?_ (by omega) (by simp; try omega))) hfresh (by first | rfl | (simp [ltT, ltA, ltC, ltV]; try omega)) (res1 (resT rfl) rfl) ?_⟩
      first | (rw [decide_eq_true (ext1 (by omega) (fun j hj => hq j (by omega)))]) | (congr 1; refine (decide_eq_false ?_).symm; intro e; subst e; first | (exact absurd rfl (by assumption)) | omega)
theorem laws_eqIntS_e_s (c : Nat) (H : Heap) (n : Nat) : Fn Try.prog 29 [.slice none 0 2, .slice (some ⟨c, 0, none⟩) 0 1] H n (.bool true) (H) (n) := by
  refine Fn.intro' Try.func29 rfl (by kernel_rfl) Try.ntmps29 (by simp) (by omega) fun hfresh => ?_
  show W _ _ _ ⟨[(0, _), (1, _)], _, _⟩ _
  refine W.sR [0, 1] fun K hK => ?_
  refine st rfl rfl (e_assign rfl) ?_
  refine stEnd (hK _ [(0, _), (1, _)] _ _ rfl ?_)
  clear hK K
  refine W.seq ?_
  refine W.sR [0, 1, 10] fun K hK => ?_
  refine st rfl rfl (e_move rfl) ?_
  refine st rfl rfl (e_len t40 rfl) ?_
  refine st rfl rfl (e_move rfl) ?_
  refine st rfl rfl (e_len t40 rfl) ?_
  refine st rfl rfl (e_neq rfl rfl) ?_
  refine stB (fun hz => ?_) (fun hz => ?_)
  ·
    exact absurd hz (by simp)
  ·
    try simp only [decide_eq_true_eq, decide_eq_false_iff_not, Bool.not_eq_true', Bool.not_eq_false', Bool.not_eq_true, Bool.not_eq_false] at hz
    refine stEnd (hK _ [(0, _), (1, _), (10, _)] _ _ rfl ?_)
    clear hK K
    refine W.condF rfl ?_
    refine W.skip ?_
    refine thenN ?_
    refine W.seq ?_
    refine W.sR [0, 1, 5] fun K hK => ?_
    refine st rfl rfl (e_assign rfl) ?_
    refine stEnd (hK _ [(0, _), (1, _), (5, _)] _ _ rfl ?_)
    clear hK K
    refine W.block ?_
    refine W.ord [5, 0, 1] (ts' := [(5, _)] ++ [(0, _), (1, _)]) rfl ?_
    refine W.loopC [(5, _)] [] (fun κ V G μ => V = [(5, .int .i64 0)] ∧ κ = 0) _ ⟨rfl, rfl⟩ fun κ V G μ hinv hμ hkeep hfr => ?_
    obtain ⟨rfl, rfl⟩ := hinv
    refine W.seq ?_
    refine W.sR [0, 1, 5, 14] fun K hK => ?_
    refine st rfl rfl (e_move rfl) ?_
    refine st rfl rfl (e_move rfl) ?_
    refine st rfl rfl (e_len t40 rfl) ?_
    refine st rfl rfl (e_lss rfl rfl) ?_
    refine stB (fun hz => ?_) (fun hz => ?_)
    ·
      exact absurd hz (by simp)
    ·
      try simp only [decide_eq_true_eq, decide_eq_false_iff_not, Bool.not_eq_true', Bool.not_eq_false', Bool.not_eq_true, Bool.not_eq_false] at hz
      refine stEnd (hK _ [(0, _), (1, _), (5, _), (14, _)] _ _ rfl ?_)
      clear hK K
      refine W.condF rfl ?_
      refine W.exit ?_
      refine thenE ?_
      refine thenE ?_
      refine blockX ?_
      refine thenN ?_
      refine W.sR [4] fun K hK => ?_
      refine st rfl rfl (e_assign rfl) ?_
      refine stEnd (hK _ [(4, _)] _ _ rfl ?_)
      clear hK K
      refine W.ret ?_
      refine ⟨.inr rfl, Ends.v0 (by repeat (first | exact self_old | assumption | refine set_old ?_ (by omega) | refine keep_old (by assumption) ?_ (by omega) (by simp; try omega))) hfresh (by first | rfl | (simp [ltT, ltA, ltC, ltV]; try omega)) (res1 (resT rfl) rfl) ?_⟩
      rfl
theorem laws_eqIntS_sv_s (v : Value) (b : Nat) (ro : Bool) (xs pad : List Int) (c : Nat) (ro2 : Bool) (H : Heap) (n : Nat) (hv : SV b xs.length v) (hb : H b = some (.cells ro (ints (xs ++ pad)))) (hc : H c = some (.cells ro2 (ints xs))) (hxs : xs.length ≤ 1048576) : Fn Try.prog 29 [v, .slice (some ⟨c, 0, none⟩) xs.length 1] H n (.bool true) (H) n := by
  rcases hv with rfl | ⟨h0, rfl⟩
  · have h := laws_eqIntS_p_s b ro xs pad c ro2 xs H n hb hc hxs
    rw [decide_eq_true rfl] at h; exact h
  · obtain rfl : xs = [] := List.eq_nil_of_length_eq_zero h0
    exact laws_eqIntS_e_s c H n
theorem laws_eqIntA3_s (a b : C) (H : Heap) (n : Nat) : Fn Try.prog 64 [.agg #[.int .i64 a.1, .int .i64 a.2.1, .int .i64 a.2.2], .agg #[.int .i64 b.1, .int .i64 b.2.1, .int .i64 b.2.2]] H n (.bool (decide (a = b))) (H) (n) := by
  refine Fn.intro' Try.func64 rfl (by kernel_rfl) Try.ntmps64 (by simp) (by omega) fun hfresh => ?_
  show W _ _ _ ⟨[(0, _), (1, _)], _, _⟩ _
  refine W.sR [2, 3] fun K hK => ?_
  refine st rfl rfl (e_boxA rfl) ?_
  refine st rfl rfl (e_boxA rfl) ?_
  refine st rfl rfl (e_assign rfl) ?_
  refine stEnd (hK _ [(2, _), (3, _)] _ _ rfl ?_)
  clear hK K
  refine W.seq ?_
  refine W.sR [2, 3, 5] fun K hK => ?_
  refine st rfl rfl (e_assign rfl) ?_
  refine stEnd (hK _ [(2, _), (3, _), (5, _)] _ _ rfl ?_)
  clear hK K
  refine W.block ?_
  refine W.ord [5, 2, 3] (ts' := [(5, _)] ++ [(2, _), (3, _)]) rfl ?_
  refine W.loopC [(5, _)] [] (fun κ V G μ => ∃ i : Nat, V = [(5, .int .i64 (i : Nat))] ∧ κ = 3 - i ∧ (i ≤ 3) ∧ (∀ j, j < i → ci a j = ci b j)) _ ⟨0, rfl, rfl, (by first | omega | assumption | rfl | simp_all), (fun j hj => absurd hj (by omega))⟩ fun κ V G μ hinv hμ hkeep hfr => ?_
  obtain ⟨i, rfl, rfl, hi, hq⟩ := hinv
  refine W.seq ?_
  refine W.sR [2, 3, 5, 7] fun K hK => ?_
  refine st rfl rfl (e_move rfl) ?_
  refine st rfl rfl (e_lss rfl rfl) ?_
  refine stB (fun hb1 => ?_) (fun hb1 => ?_)
  ·
    try simp only [decide_eq_true_eq, decide_eq_false_iff_not, Bool.not_eq_true', Bool.not_eq_false', Bool.not_eq_true, Bool.not_eq_false] at hb1
    refine stEnd (hK _ [(2, _), (3, _), (5, _), (7, _)] _ _ rfl ?_)
    clear hK K
    refine W.condT rfl ?_
    refine W.skip ?_
    refine thenN ?_
    refine W.seq ?_
    refine W.block ?_
    refine W.sD [2, 3, 5, 16] [0, 1, 3, 0, 8, 24, 63] (by kernel_rfl) (by kernel_rfl) fun K hK => ?_
    refine dP rfl rfl rfl (e_move rfl) ?_
    refine dP rfl rfl rfl (e_idxAK _ t25 t3 rfl rfl rfl (by first | omega | decide)) ?_
    refine dL rfl rfl rfl (by omega) (accB_ok rfl) (e_load1 t3 rfl rfl (by repeat (first | exact look_same | assumption | refine look_ne (by omega) ?_ | refine look_keep (by assumption) (by omega) (by simp; try omega) ?_)) (by first | rfl | exact tri_getL (by omega))) ?_
    refine dP rfl rfl rfl (e_move rfl) ?_
    refine dP rfl rfl rfl (e_idxAK _ t25 t3 rfl rfl rfl (by first | omega | decide)) ?_
    refine dL rfl rfl rfl (by omega) (accB_ok rfl) (e_load1 t3 rfl rfl (by repeat (first | exact look_same | assumption | refine look_ne (by omega) ?_ | refine look_keep (by assumption) (by omega) (by simp; try omega) ?_)) (by first | rfl | exact tri_getL (by omega))) ?_
    refine dP rfl rfl rfl (e_neq rfl rfl) ?_
    refine dB (fun hb2 => ?_) (fun hb2 => ?_)
    ·
      try simp only [decide_eq_true_eq, decide_eq_false_iff_not, Bool.not_eq_true', Bool.not_eq_false', Bool.not_eq_true, Bool.not_eq_false] at hb2
      refine dEnd (hK _ [(2, _), (3, _), (5, _), (16, _)] _ _ rfl ?_)
      clear hK K
      refine W.condT rfl ?_
      refine W.sR [4] fun K hK => ?_
      refine st rfl rfl (e_assign rfl) ?_
      refine stEnd (hK _ [(4, _)] _ _ rfl ?_)
      clear hK K
      refine W.ret ?_
      refine blockR ?_
      refine thenR ?_
      refine thenR ?_
      refine blockR ?_
      refine thenR ?_
      refine ⟨.inr rfl, Ends.v0 (by repeat (first | exact self_old | assumption | refine set_old ?_ (by omega) | refine keep_old (by assumption) ?_ (by omega) (by simp; try omega))) hfresh (by first | rfl | (simp [ltT, ltA, ltC, ltV]; try omega)) (res1 (resT rfl) rfl) ?_⟩
      first | (rw [decide_eq_true (ci_ext (fun j hj => hq j (by omega)))]) | (congr 1; refine (decide_eq_false ?_).symm; intro e; subst e; first | (exact absurd rfl (by assumption)) | omega)
    ·
      try simp only [decide_eq_true_eq, decide_eq_false_iff_not, Bool.not_eq_true', Bool.not_eq_false', Bool.not_eq_true, Bool.not_eq_false] at hb2
      refine dEnd (hK _ [(2, _), (3, _), (5, _), (16, _)] _ _ rfl ?_)
      clear hK K
      refine W.condF rfl ?_
      refine W.skip ?_
      refine blockN ?_
      refine thenN ?_
      refine W.rR [5, 2, 3] fun K hK => ?_
      refine st rfl rfl (e_move rfl) ?_
      refine st rfl rfl (e_add rfl rfl (inB _ (by omega))) ?_
      refine st rfl rfl (e_assign rfl) ?_
      refine stEnd (hK _ [(5, _), (2, _), (3, _)] _ _ rfl ?_)
      clear hK K
      exact roundN (V' := [(5, _)]) [5, 2, 3] rfl (by omega) (by repeat (first | exact Keeps.refl _ _ _ | assumption | refine Keeps.trans ?_ (by assumption) (by omega) (by simp; try omega) | refine Keeps.set ?_ (by first | exact Or.inl (by omega) | (simp; done) | (simp; omega)) | refine Keeps.del ?_ (by first | exact Or.inl (by omega) | (simp; done) | (simp; omega)))) _ (by omega) ⟨i + 1, rfl, rfl, (by first | omega | assumption | simp_all), (all_succ hq (by assumption))⟩
  ·
    try simp only [decide_eq_true_eq, decide_eq_false_iff_not, Bool.not_eq_true', Bool.not_eq_false', Bool.not_eq_true, Bool.not_eq_false] at hb1
    refine stEnd (hK _ [(2, _), (3, _), (5, _), (7, _)] _ _ rfl ?_)
    clear hK K
    refine W.condF rfl ?_
    refine W.exit ?_
    refine thenE ?_
    refine thenE ?_
    refine blockX ?_
    refine thenN ?_
    refine W.sR [4] fun K hK => ?_
    refine st rfl rfl (e_assign rfl) ?_
    refine stEnd (hK _ [(4, _)] _ _ rfl ?_)
    clear hK K
    refine W.ret ?_
    refine ⟨.inr rfl, Ends.v0 (by repeat (first | exact self_old | assumption | refine set_old ?_ (by omega) | refine keep_old (by assumption) ?_ (by omega) (by simp; try omega))) hfresh (by first | rfl | (simp [ltT, ltA, ltC, ltV]; try omega)) (res1 (resT rfl) rfl) ?_⟩
    first | (rw [decide_eq_true (ci_ext (fun j hj => hq j (by omega)))]) | (congr 1; refine (decide_eq_false ?_).symm; intro e; subst e; first | (exact absurd rfl (by assumption)) | omega)
theorem laws_eqIntA3S_s (b : Nat) (ro : Bool) (xs : List C) (c : Nat) (ro2 : Bool) (ys : List C) (H : Heap) (n : Nat) (hb : H b = some (.cells ro (flat xs))) (hc : H c = some (.cells ro2 (flat ys))) (hxs : xs.length ≤ 1048576) : Fn Try.prog 23 [.slice (some ⟨b, 0, none⟩) xs.length 3, .slice (some ⟨c, 0, none⟩) ys.length 3] H n (.bool (decide (xs = ys))) (H) (n) := by
  refine Fn.intro' Try.func23 rfl (by kernel_rfl) Try.ntmps23 (by simp) (by omega) fun hfresh => ?_
  have lt_hb := lt_fresh hfresh hb
  have lt_hc := lt_fresh hfresh hc
  show W _ _ _ ⟨[(0, _), (1, _)], _, _⟩ _
  refine W.sR [0, 1] fun K hK => ?_
  refine st rfl rfl (e_assign rfl) ?_
  refine stEnd (hK _ [(0, _), (1, _)] _ _ rfl ?_)
  clear hK K
  refine W.seq ?_
  refine W.sR [0, 1, 10] fun K hK => ?_
  refine st rfl rfl (e_move rfl) ?_
  refine st rfl rfl (e_len t22 rfl) ?_
  refine st rfl rfl (e_move rfl) ?_
  refine st rfl rfl (e_len t22 rfl) ?_
  refine st rfl rfl (e_neq rfl rfl) ?_
  refine stB (fun hb1 => ?_) (fun hb1 => ?_)
  ·
    try simp only [decide_eq_true_eq, decide_eq_false_iff_not, Bool.not_eq_true', Bool.not_eq_false', Bool.not_eq_true, Bool.not_eq_false] at hb1
    refine stEnd (hK _ [(0, _), (1, _), (10, _)] _ _ rfl ?_)
    clear hK K
    refine W.condT rfl ?_
    refine W.sR [4] fun K hK => ?_
    refine st rfl rfl (e_assign rfl) ?_
    refine stEnd (hK _ [(4, _)] _ _ rfl ?_)
    clear hK K
    refine W.ret ?_
    refine thenR ?_
    refine ⟨.inr rfl, Ends.v0 (by repeat (first | exact self_old | assumption | refine set_old ?_ (by omega) | refine keep_old (by assumption) ?_ (by omega) (by simp; try omega))) hfresh (by first | rfl | (simp [ltT, ltA, ltC, ltV]; try omega)) (res1 (resT rfl) rfl) ?_⟩
    first | (rw [decide_eq_true (ext3 (by omega) (fun j hj => hq j (by omega)))]) | (congr 1; refine (decide_eq_false ?_).symm; intro e; subst e; first | (exact absurd rfl (by assumption)) | omega)
  ·
    try simp only [decide_eq_true_eq, decide_eq_false_iff_not, Bool.not_eq_true', Bool.not_eq_false', Bool.not_eq_true, Bool.not_eq_false] at hb1
    refine stEnd (hK _ [(0, _), (1, _), (10, _)] _ _ rfl ?_)
    clear hK K
    refine W.condF rfl ?_
    refine W.skip ?_
    refine thenN ?_
    refine W.seq ?_
    refine W.sR [0, 1, 5] fun K hK => ?_
    refine st rfl rfl (e_assign rfl) ?_
    refine stEnd (hK _ [(0, _), (1, _), (5, _)] _ _ rfl ?_)
    clear hK K
    refine W.block ?_
    refine W.ord [5, 0, 1] (ts' := [(5, _)] ++ [(0, _), (1, _)]) rfl ?_
    refine W.loopC [(5, _)] [] (fun κ V G μ => ∃ i : Nat, V = [(5, .int .i64 (i : Nat))] ∧ κ = xs.length - i ∧ (i ≤ xs.length) ∧ (∀ j, j < i → at3 xs j = at3 ys j)) _ ⟨0, rfl, rfl, (by first | omega | assumption | rfl | simp_all), (fun j hj => absurd hj (by omega))⟩ fun κ V G μ hinv hμ hkeep hfr => ?_
    obtain ⟨i, rfl, rfl, hi, hq⟩ := hinv
    refine W.seq ?_
    refine W.sR [0, 1, 5, 14] fun K hK => ?_
    refine st rfl rfl (e_move rfl) ?_
    refine st rfl rfl (e_move rfl) ?_
    refine st rfl rfl (e_len t22 rfl) ?_
    refine st rfl rfl (e_lss rfl rfl) ?_
    refine stB (fun hb2 => ?_) (fun hb2 => ?_)
    ·
      try simp only [decide_eq_true_eq, decide_eq_false_iff_not, Bool.not_eq_true', Bool.not_eq_false', Bool.not_eq_true, Bool.not_eq_false] at hb2
      refine stEnd (hK _ [(0, _), (1, _), (5, _), (14, _)] _ _ rfl ?_)
      clear hK K
      refine W.condT rfl ?_
      refine W.skip ?_
      refine thenN ?_
      refine W.seq ?_
      refine W.block ?_
      refine W.sD [0, 1, 5, 26] [0, 0, 3, 7, 0, 0, 48, 112, 255, 511] (by kernel_rfl) (by kernel_rfl) fun K hK => ?_
      refine dP rfl rfl rfl (e_move rfl) ?_
      refine dP rfl rfl rfl (e_move rfl) ?_
      refine dP rfl rfl rfl (e_idxSK _ t22 t25 rfl rfl rfl (by first | omega | decide)) ?_
      refine dL rfl rfl rfl (by omega) (accB_ok rfl) (e_loadP t25 rfl rfl (by repeat (first | exact look_same | assumption | refine look_ne (by omega) ?_ | refine look_keep (by assumption) (by omega) (by simp; try omega) ?_)) (flat_at (by omega))) ?_
      refine dP rfl rfl rfl (e_move rfl) ?_
      refine dP rfl rfl rfl (e_move rfl) ?_
      refine dP rfl rfl rfl (e_idxSK _ t22 t25 rfl rfl rfl (by first | omega | decide)) ?_
      refine dL rfl rfl rfl (by omega) (accB_ok rfl) (e_loadP t25 rfl rfl (by repeat (first | exact look_same | assumption | refine look_ne (by omega) ?_ | refine look_keep (by assumption) (by omega) (by simp; try omega) ?_)) (flat_at (by omega))) ?_
      refine dC rfl rfl rfl rfl (laws_eqIntA3_s _ _ _ _ ) (accB_ok rfl) ?_
      refine dP rfl rfl rfl (e_not rfl) ?_
      refine dB (fun hb3 => ?_) (fun hb3 => ?_)
      ·
        try simp only [decide_eq_true_eq, decide_eq_false_iff_not, Bool.not_eq_true', Bool.not_eq_false', Bool.not_eq_true, Bool.not_eq_false] at hb3
        refine dEnd (hK _ [(0, _), (1, _), (5, _), (26, _)] _ _ rfl ?_)
        clear hK K
        refine W.condT rfl ?_
        refine W.sR [4] fun K hK => ?_
        refine st rfl rfl (e_assign rfl) ?_
        refine stEnd (hK _ [(4, _)] _ _ rfl ?_)
        clear hK K
        refine W.ret ?_
        refine blockR ?_
        refine thenR ?_
        refine thenR ?_
        refine blockR ?_
        refine thenR ?_
        refine ⟨.inr rfl, Ends.v0 (by repeat (first | exact self_old | assumption | refine set_old ?_ (by omega) | refine keep_old (by assumption) ?_ (by omega) (by simp; try omega))) hfresh (by first | rfl | (simp [ltT, ltA, ltC, ltV]; try omega)) (res1 (resT rfl) rfl) ?_⟩
        first | (rw [decide_eq_true (ext3 (by omega) (fun j hj => hq j (by omega)))]) | (congr 1; refine (decide_eq_false ?_).symm; intro e; subst e; first | (exact absurd rfl (by assumption)) | omega)
      ·
        try simp only [decide_eq_true_eq, decide_eq_false_iff_not, Bool.not_eq_true', Bool.not_eq_false', Bool.not_eq_true, Bool.not_eq_false] at hb3
        refine dEnd (hK _ [(0, _), (1, _), (5, _), (26, _)] _ _ rfl ?_)
        clear hK K
        refine W.condF rfl ?_
        refine W.skip ?_
        refine blockN ?_
        refine thenN ?_
        refine W.rR [5, 0, 1] fun K hK => ?_
        refine st rfl rfl (e_move rfl) ?_
        refine st rfl rfl (e_add rfl rfl (inB _ (by omega))) ?_
        refine st rfl rfl (e_assign rfl) ?_
        refine stEnd (hK _ [(5, _), (0, _), (1, _)] _ _ rfl ?_)
        clear hK K
        exact roundN (V' := [(5, _)]) [5, 0, 1] rfl (by omega) (by repeat (first | exact Keeps.refl _ _ _ | assumption | refine Keeps.trans ?_ (by assumption) (by omega) (by simp; try omega) | refine Keeps.set ?_ (by first | exact Or.inl (by omega) | (simp; done) | (simp; omega)) | refine Keeps.del ?_ (by first | exact Or.inl (by omega) | (simp; done) | (simp; omega)))) _ (by omega) ⟨i + 1, rfl, rfl, (by first | omega | assumption | simp_all), (all_succ hq (by assumption))⟩
    ·
      try simp only [decide_eq_true_eq, decide_eq_false_iff_not, Bool.not_eq_true', Bool.not_eq_false', Bool.not_eq_true, Bool.not_eq_false] at hb2
      refine stEnd (hK _ [(0, _), (1, _), (5, _), (14, _)] _ _ rfl ?_)
      clear hK K
      refine W.condF rfl ?_
      refine W.exit ?_
      refine thenE ?_
      refine thenE ?_
      refine blockX ?_
      refine thenN ?_
      refine W.sR [4] fun K hK => ?_
      refine st rfl rfl (e_assign rfl) ?_
      refine stEnd (hK _ [(4, _)] _ _ rfl ?_)
      clear hK K
      refine W.ret ?_
      refine ⟨.inr rfl, Ends.v0 (by repeat (first | exact self_old | assumption | refine set_old ?_ (by omega) | refine keep_old (by assumption) ?_ (by omega) (by simp; try omega))) hfresh (by first | rfl | (simp [ltT, ltA, ltC, ltV]; try omega)) (res1 (resT rfl) rfl) ?_⟩
      first | (rw [decide_eq_true (ext3 (by omega) (fun j hj => hq j (by omega)))]) | (congr 1; refine (decide_eq_false ?_).symm; intro e; subst e; first | (exact absurd rfl (by assumption)) | omega)
theorem laws_eqHeap_s (X Y Z : Int) (b : Nat) (ro : Bool) (cs : List C) (X2 Y2 Z2 : Int) (c : Nat) (ro2 : Bool) (ds : List C) (H : Heap) (n : Nat) (hb : H b = some (.cells ro (flat cs))) (hc : H c = some (.cells ro2 (flat ds))) (hlen : cs.length ≤ 1048576) : Fn Try.prog 22 [.agg #[.int .i64 X, .int .i64 Y, .int .i64 Z, .slice (some ⟨b, 0, none⟩) cs.length 3], .agg #[.int .i64 X2, .int .i64 Y2, .int .i64 Z2, .slice (some ⟨c, 0, none⟩) ds.length 3]] H n (.bool (decide (X = X2 ∧ Y = Y2 ∧ Z = Z2 ∧ cs = ds))) (H) (n) := by
  refine Fn.intro' Try.func22 rfl (by kernel_rfl) Try.ntmps22 (by simp) (by omega) fun hfresh => ?_
  have lt_hb := lt_fresh hfresh hb
  have lt_hc := lt_fresh hfresh hc
  show W _ _ _ ⟨[(0, _), (1, _)], _, _⟩ _
  refine W.sR [2, 3] fun K hK => ?_
  refine st rfl rfl (e_boxA rfl) ?_
  refine st rfl rfl (e_boxA rfl) ?_
  refine st rfl rfl (e_assign rfl) ?_
  refine stEnd (hK _ [(2, _), (3, _)] _ _ rfl ?_)
  clear hK K
  refine W.seq ?_
  refine W.sR [2, 3, 9] fun K hK => ?_
  refine st rfl rfl (e_fieldAddr t30 t3 rfl rfl) ?_
  refine st rfl rfl (e_load1 t3 rfl rfl (by repeat (first | exact look_same | assumption | refine look_ne (by omega) ?_)) rfl) ?_
  refine st rfl rfl (e_fieldAddr t30 t3 rfl rfl) ?_
  refine st rfl rfl (e_load1 t3 rfl rfl (by repeat (first | exact look_same | assumption | refine look_ne (by omega) ?_)) rfl) ?_
  refine st rfl rfl (e_neq rfl rfl) ?_
  refine stB (fun hb1 => ?_) (fun hb1 => ?_)
  ·
    try simp only [decide_eq_true_eq, decide_eq_false_iff_not, Bool.not_eq_true', Bool.not_eq_false', Bool.not_eq_true, Bool.not_eq_false] at hb1
    refine stEnd (hK _ [(2, _), (3, _), (9, _)] _ _ rfl ?_)
    clear hK K
    refine W.condT rfl ?_
    refine W.sR [4] fun K hK => ?_
    refine st rfl rfl (e_assign rfl) ?_
    refine stEnd (hK _ [(4, _)] _ _ rfl ?_)
    clear hK K
    refine W.ret ?_
    refine thenR ?_
    refine ⟨.inr rfl, Ends.v0 (by repeat (first | exact self_old | assumption | refine set_old ?_ (by omega))) hfresh (by first | rfl | (simp [ltT, ltA, ltC, ltV]; try omega)) (res1 (resT rfl) rfl) ?_⟩
    first | simp_all | (simp_all; omega)
  ·
    try simp only [decide_eq_true_eq, decide_eq_false_iff_not, Bool.not_eq_true', Bool.not_eq_false', Bool.not_eq_true, Bool.not_eq_false] at hb1
    refine stEnd (hK _ [(2, _), (3, _), (9, _)] _ _ rfl ?_)
    clear hK K
    refine W.condF rfl ?_
    refine W.skip ?_
    refine thenN ?_
    refine W.seq ?_
    refine W.sR [2, 3, 14] fun K hK => ?_
    refine st rfl rfl (e_fieldAddr t30 t3 rfl rfl) ?_
    refine st rfl rfl (e_load1 t3 rfl rfl (by repeat (first | exact look_same | assumption | refine look_ne (by omega) ?_)) rfl) ?_
    refine st rfl rfl (e_fieldAddr t30 t3 rfl rfl) ?_
    refine st rfl rfl (e_load1 t3 rfl rfl (by repeat (first | exact look_same | assumption | refine look_ne (by omega) ?_)) rfl) ?_
    refine st rfl rfl (e_neq rfl rfl) ?_
    refine stB (fun hb2 => ?_) (fun hb2 => ?_)
    ·
      try simp only [decide_eq_true_eq, decide_eq_false_iff_not, Bool.not_eq_true', Bool.not_eq_false', Bool.not_eq_true, Bool.not_eq_false] at hb2
      refine stEnd (hK _ [(2, _), (3, _), (14, _)] _ _ rfl ?_)
      clear hK K
      refine W.condT rfl ?_
      refine W.sR [4] fun K hK => ?_
      refine st rfl rfl (e_assign rfl) ?_
      refine stEnd (hK _ [(4, _)] _ _ rfl ?_)
      clear hK K
      refine W.ret ?_
      refine thenR ?_
      refine ⟨.inr rfl, Ends.v0 (by repeat (first | exact self_old | assumption | refine set_old ?_ (by omega))) hfresh (by first | rfl | (simp [ltT, ltA, ltC, ltV]; try omega)) (res1 (resT rfl) rfl) ?_⟩
      first | simp_all | (simp_all; omega)
    ·
      try simp only [decide_eq_true_eq, decide_eq_false_iff_not, Bool.not_eq_true', Bool.not_eq_false', Bool.not_eq_true, Bool.not_eq_false] at hb2
      refine stEnd (hK _ [(2, _), (3, _), (14, _)] _ _ rfl ?_)
      clear hK K
      refine W.condF rfl ?_
      refine W.skip ?_
      refine thenN ?_
      refine W.seq ?_
      refine W.sR [2, 3, 19] fun K hK => ?_
      refine st rfl rfl (e_fieldAddr t30 t3 rfl rfl) ?_
      refine st rfl rfl (e_load1 t3 rfl rfl (by repeat (first | exact look_same | assumption | refine look_ne (by omega) ?_)) rfl) ?_
      refine st rfl rfl (e_fieldAddr t30 t3 rfl rfl) ?_
      refine st rfl rfl (e_load1 t3 rfl rfl (by repeat (first | exact look_same | assumption | refine look_ne (by omega) ?_)) rfl) ?_
      refine st rfl rfl (e_neq rfl rfl) ?_
      refine stB (fun hb3 => ?_) (fun hb3 => ?_)
      ·
        try simp only [decide_eq_true_eq, decide_eq_false_iff_not, Bool.not_eq_true', Bool.not_eq_false', Bool.not_eq_true, Bool.not_eq_false] at hb3
        refine stEnd (hK _ [(2, _), (3, _), (19, _)] _ _ rfl ?_)
        clear hK K
        refine W.condT rfl ?_
        refine W.sR [4] fun K hK => ?_
        refine st rfl rfl (e_assign rfl) ?_
        refine stEnd (hK _ [(4, _)] _ _ rfl ?_)
        clear hK K
        refine W.ret ?_
        refine thenR ?_
        refine ⟨.inr rfl, Ends.v0 (by repeat (first | exact self_old | assumption | refine set_old ?_ (by omega))) hfresh (by first | rfl | (simp [ltT, ltA, ltC, ltV]; try omega)) (res1 (resT rfl) rfl) ?_⟩
        first | simp_all | (simp_all; omega)
      ·
        try simp only [decide_eq_true_eq, decide_eq_false_iff_not, Bool.not_eq_true', Bool.not_eq_false', Bool.not_eq_true, Bool.not_eq_false] at hb3
        refine stEnd (hK _ [(2, _), (3, _), (19, _)] _ _ rfl ?_)
        clear hK K
        refine W.condF rfl ?_
        refine W.skip ?_
        refine thenN ?_
        refine W.seq ?_
        refine W.sR [25] fun K hK => ?_
        refine st rfl rfl (e_fieldAddr t30 t22 rfl rfl) ?_
        refine st rfl rfl (e_load1 t22 rfl rfl (by repeat (first | exact look_same | assumption | refine look_ne (by omega) ?_)) rfl) ?_
        refine st rfl rfl (e_fieldAddr t30 t22 rfl rfl) ?_
        refine st rfl rfl (e_load1 t22 rfl rfl (by repeat (first | exact look_same | assumption | refine look_ne (by omega) ?_)) rfl) ?_
        refine stC rfl rfl rfl (laws_eqIntA3S_s _ _ _ _ _ _ _ _ (by repeat (first | exact look_same | assumption | refine look_ne (by omega) ?_)) (by repeat (first | exact look_same | assumption | refine look_ne (by omega) ?_)) (by omega)) ?_
        refine st rfl rfl (e_not rfl) ?_
        refine stB (fun hb4 => ?_) (fun hb4 => ?_)
        ·
          try simp only [decide_eq_true_eq, decide_eq_false_iff_not, Bool.not_eq_true', Bool.not_eq_false', Bool.not_eq_true, Bool.not_eq_false] at hb4
          refine stEnd (hK _ [(25, _)] _ _ rfl ?_)
          clear hK K
          refine W.condT rfl ?_
          refine W.sR [4] fun K hK => ?_
          refine st rfl rfl (e_assign rfl) ?_
          refine stEnd (hK _ [(4, _)] _ _ rfl ?_)
          clear hK K
          refine W.ret ?_
          refine thenR ?_
          refine ⟨.inr rfl, Ends.v0 (by repeat (first | exact self_old | assumption | refine set_old ?_ (by omega))) hfresh (by first | rfl | (simp [ltT, ltA, ltC, ltV]; try omega)) (res1 (resT rfl) rfl) ?_⟩
          first | simp_all | (simp_all; omega)
        ·
          try simp only [decide_eq_true_eq, decide_eq_false_iff_not, Bool.not_eq_true', Bool.not_eq_false', Bool.not_eq_true, Bool.not_eq_false] at hb4
          refine stEnd (hK _ [(25, _)] _ _ rfl ?_)
          clear hK K
          refine W.condF rfl ?_
          refine W.skip ?_
          refine thenN ?_
          refine W.sR [4] fun K hK => ?_
          refine st rfl rfl (e_assign rfl) ?_
          refine stEnd (hK _ [(4, _)] _ _ rfl ?_)
          clear hK K
          refine W.ret ?_
          refine ⟨.inr rfl, Ends.v0 (by repeat (first | exact self_old | assumption | refine set_old ?_ (by omega))) hfresh (by first | rfl | (simp [ltT, ltA, ltC, ltV]; try omega)) (res1 (resT rfl) rfl) ?_⟩
          first | simp_all | (simp_all; omega)
theorem laws_markIntA3S_s (b m : Nat) (vs : List Value) (k : Int) (H : Heap) (n : Nat) (hb : H b = some (.cells false vs)) (hl : vs.length = 3 * m) (hp : vs.all plainA = true) (hk : (0 ≤ k ∧ k ≤ 1099511627776) ∧ m ≤ 1073741824) : Fn Try.prog 38 [.slice (some ⟨b, 0, none⟩) m 3, .int .i64 k] H n (.int .i64 (k + 3 * (m : Int))) (H.set b (.cells false (markV k (3 * m) vs))) (n) := by
  refine Fn.intro' Try.func38 rfl (by kernel_rfl) Try.ntmps38 (by simp) (by omega) fun hfresh => ?_
  have lt_hb := lt_fresh hfresh hb
  show W _ _ _ ⟨[(0, _), (1, _)], _, _⟩ _
  refine W.sR [0, 1] fun K hK => ?_
  refine st rfl rfl (e_assign rfl) ?_
  refine stEnd (hK _ [(0, _), (1, _)] _ _ rfl ?_)
  clear hK K
  refine W.seq ?_
  refine W.sR [0, 1, 5] fun K hK => ?_
  refine st rfl rfl (e_assign rfl) ?_
  refine stEnd (hK _ [(0, _), (1, _), (5, _)] _ _ rfl ?_)
  clear hK K
  refine W.block ?_
  refine W.ord [1, 5, 0] (ts' := [(1, _), (5, _)] ++ [(0, _)]) rfl ?_
  refine W.loopC [(1, _), (5, _)] [b] (fun κ V G μ => ∃ i : Nat, V = [(1, .int .i64 (k + 3 * (i : Int))), (5, .int .i64 (i : Nat))] ∧ κ = m - i ∧ (i ≤ m) ∧ (G b = some (.cells false (markV k (3 * i) vs)))) _ ⟨0, (by simp), rfl, (by first | omega | assumption | rfl | simp_all), (by rw [Nat.mul_zero, markV_zero]; exact (by repeat (first | exact look_same | assumption | refine look_ne (by omega) ?_ | refine look_keep (by assumption) (by omega) (by simp; try omega) ?_)))⟩ fun κ V G μ hinv hμ hkeep hfr => ?_
  obtain ⟨i, rfl, rfl, hi, hG⟩ := hinv
  refine W.seq ?_
  refine W.sR [0, 1, 5, 10] fun K hK => ?_
  refine st rfl rfl (e_move rfl) ?_
  refine st rfl rfl (e_move rfl) ?_
  refine st rfl rfl (e_len t22 rfl) ?_
  refine st rfl rfl (e_lss rfl rfl) ?_
  refine stB (fun hb1 => ?_) (fun hb1 => ?_)
  ·
    try simp only [decide_eq_true_eq, decide_eq_false_iff_not, Bool.not_eq_true', Bool.not_eq_false', Bool.not_eq_true, Bool.not_eq_false] at hb1
    refine stEnd (hK _ [(0, _), (1, _), (5, _), (10, _)] _ _ rfl ?_)
    clear hK K
    refine W.condT rfl ?_
    refine W.skip ?_
    refine thenN ?_
    refine W.seq ?_
    refine W.block ?_
    refine W.sR [0, 1, 5, 6] fun K hK => ?_
    refine st rfl rfl (e_assign rfl) ?_
    refine stEnd (hK _ [(0, _), (1, _), (5, _), (6, _)] _ _ rfl ?_)
    clear hK K
    refine W.block ?_
    refine W.ord [1, 6, 0, 5] (ts' := [(1, _), (6, _)] ++ [(0, _), (5, _)]) rfl ?_
    refine W.loopC [(1, _), (6, _)] [b] (fun κ V G μ => ∃ j : Nat, V = [(1, .int .i64 (k + 3 * (i : Int) + (j : Int))), (6, .int .i64 (j : Nat))] ∧ κ = 3 - j ∧ (j ≤ 3) ∧ (G b = some (.cells false (markV k (3 * i + j) vs)))) _ ⟨0, (by simp), rfl, (by first | omega | assumption | rfl | simp_all), (by exact hG)⟩ fun κ V G μ hinv hμ hkeep hfr => ?_
    obtain ⟨j, rfl, rfl, hj, hG2⟩ := hinv
    refine W.seq ?_
    refine W.sR [0, 1, 5, 6, 14] fun K hK => ?_
    refine st rfl rfl (e_move rfl) ?_
    refine st rfl rfl (e_lss rfl rfl) ?_
    refine stB (fun hb2 => ?_) (fun hb2 => ?_)
    ·
      try simp only [decide_eq_true_eq, decide_eq_false_iff_not, Bool.not_eq_true', Bool.not_eq_false', Bool.not_eq_true, Bool.not_eq_false] at hb2
      refine stEnd (hK _ [(0, _), (1, _), (5, _), (6, _), (14, _)] _ _ rfl ?_)
      clear hK K
      refine W.condT rfl ?_
      refine W.skip ?_
      refine thenN ?_
      refine W.seq ?_
      refine W.block ?_
      refine W.sR [0, 1, 5, 6] fun K hK => ?_
      refine st rfl rfl (e_move rfl) ?_
      refine st rfl rfl (e_move rfl) ?_
      refine st rfl rfl (e_move rfl) ?_
      refine st rfl rfl (e_move rfl) ?_
      refine st rfl rfl (e_idxSK _ t22 t25 rfl rfl rfl (by first | omega | decide)) ?_
      refine st rfl rfl (e_idxAK _ t25 t3 rfl rfl rfl (by first | omega | decide)) ?_
      refine stN rfl (e_store1 t3 rfl rfl rfl (by repeat (first | exact look_same | assumption | refine look_ne (by omega) ?_ | refine look_keep (by assumption) (by omega) (by simp; try omega) ?_)) (by rw [markV_length (by omega)]; omega)) ?_
      refine stEnd (hK _ [(0, _), (1, _), (5, _), (6, _)] _ _ rfl ?_)
      clear hK K
      refine W.rR [0, 1, 5, 6] fun K hK => ?_
      refine st rfl rfl (e_move rfl) ?_
      refine st rfl rfl (e_add rfl rfl (inB _ (by omega))) ?_
      refine st rfl rfl (e_assign rfl) ?_
      refine stEnd (hK _ [(0, _), (1, _), (5, _), (6, _)] _ _ rfl ?_)
      clear hK K
      refine blockN ?_
      refine thenN ?_
      refine W.rR [1, 6, 0, 5] fun K hK => ?_
      refine st rfl rfl (e_move rfl) ?_
      refine st rfl rfl (e_add rfl rfl (inB _ (by omega))) ?_
      refine st rfl rfl (e_assign rfl) ?_
      refine stEnd (hK _ [(1, _), (6, _), (0, _), (5, _)] _ _ rfl ?_)
      clear hK K
      exact roundN (V' := [(1, _), (6, _)]) [1, 6, 0, 5] rfl (by omega) (by repeat (first | exact Keeps.refl _ _ _ | assumption | refine Keeps.trans ?_ (by assumption) (by omega) (by simp; try omega) | refine Keeps.set ?_ (by first | exact Or.inl (by omega) | (simp; done) | (simp; omega)) | refine Keeps.del ?_ (by first | exact Or.inl (by omega) | (simp; done) | (simp; omega)))) _ (by omega) ⟨j + 1, (by simp <;> omega), rfl, (by first | omega | assumption | simp_all), (look_same.trans (congrArg some (congrArg (Blk.cells false) (by rw [show 0 + i * 3 + j * 1 = 3 * i + j by omega]; exact markV_set (by omega) (by simp <;> omega)))))⟩
    ·
      try simp only [decide_eq_true_eq, decide_eq_false_iff_not, Bool.not_eq_true', Bool.not_eq_false', Bool.not_eq_true, Bool.not_eq_false] at hb2
      refine stEnd (hK _ [(0, _), (1, _), (5, _), (6, _), (14, _)] _ _ rfl ?_)
      clear hK K
      refine W.condF rfl ?_
      refine W.exit ?_
      refine thenE ?_
      refine thenE ?_
      refine blockX ?_
      refine blockN ?_
      refine thenN ?_
      refine W.rR [1, 5, 0] fun K hK => ?_
      refine st rfl rfl (e_move rfl) ?_
      refine st rfl rfl (e_add rfl rfl (inB _ (by omega))) ?_
      refine st rfl rfl (e_assign rfl) ?_
      refine stEnd (hK _ [(1, _), (5, _), (0, _)] _ _ rfl ?_)
      clear hK K
      exact roundN (V' := [(1, _), (5, _)]) [1, 5, 0] rfl (by omega) (by repeat (first | exact Keeps.refl _ _ _ | assumption | refine Keeps.trans ?_ (by assumption) (by omega) (by simp; try omega) | refine Keeps.set ?_ (by first | exact Or.inl (by omega) | (simp; done) | (simp; omega)) | refine Keeps.del ?_ (by first | exact Or.inl (by omega) | (simp; done) | (simp; omega)))) _ (by omega) ⟨i + 1, (by simp <;> omega), rfl, (by first | omega | assumption | simp_all), (by cases (show j = 3 from by omega); exact hG2)⟩
  ·
    try simp only [decide_eq_true_eq, decide_eq_false_iff_not, Bool.not_eq_true', Bool.not_eq_false', Bool.not_eq_true, Bool.not_eq_false] at hb1
    refine stEnd (hK _ [(0, _), (1, _), (5, _), (10, _)] _ _ rfl ?_)
    clear hK K
    refine W.condF rfl ?_
    refine W.exit ?_
    refine thenE ?_
    refine thenE ?_
    refine blockX ?_
    refine thenN ?_
    refine W.sR [4] fun K hK => ?_
    refine st rfl rfl (e_move rfl) ?_
    refine st rfl rfl (e_assign rfl) ?_
    refine stEnd (hK _ [(4, _)] _ _ rfl ?_)
    clear hK K
    refine W.ret ?_
    refine ⟨.inr rfl, Ends.vU (by omega) (by repeat (first | exact OldBut.self | assumption | refine OldBut.set ?_ (by first | exact Or.inl (by omega) | (simp; done) | (simp; omega)) | refine OldBut.keep (by assumption) ?_ (by omega) (by simp; try omega))) hfresh (by repeat (first | exact look_same | assumption | refine look_ne (by omega) ?_ | refine look_keep (by assumption) (by omega) (by simp; try omega) ?_)) ?_ (markV_plain hp) (by first | rfl | (simp [ltT, ltA, ltC, ltV]; try omega)) (res1 (resT rfl) rfl) ?_⟩
    · (obtain rfl : i = m := by omega); rfl
    · (obtain rfl : i = m := by omega); rfl
theorem laws_markHeap_s (X Y Z : Int) (b m : Nat) (vs : List Value) (k : Int) (H : Heap) (n : Nat) (hb : H b = some (.cells false vs)) (hl : vs.length = 3 * m) (hp : vs.all plainA = true) (hk : (0 ≤ k ∧ k ≤ 1099511627776) ∧ m ≤ 1073741824) : Fn Try.prog 34 [.agg #[.int .i64 X, .int .i64 Y, .int .i64 Z, .slice (some ⟨b, 0, none⟩) m 3], .int .i64 k] H n (.int .i64 (k + 3 * (m : Int))) (H.set b (.cells false (markV k (3 * m) vs))) (n) := by
  refine Fn.intro' Try.func34 rfl (by kernel_rfl) Try.ntmps34 (by simp) (by omega) fun hfresh => ?_
  have lt_hb := lt_fresh hfresh hb
  show W _ _ _ ⟨[(0, _), (1, _)], _, _⟩ _
  refine W.sR [1, 2] fun K hK => ?_
  refine st rfl rfl (e_boxA rfl) ?_
  refine st rfl rfl (e_assign rfl) ?_
  refine stEnd (hK _ [(1, _), (2, _)] _ _ rfl ?_)
  clear hK K
  refine W.sR [1] fun K hK => ?_
  refine st rfl rfl (e_fieldAddr t30 t22 rfl rfl) ?_
  refine st rfl rfl (e_load1 t22 rfl rfl (by repeat (first | exact look_same | assumption | refine look_ne (by omega) ?_)) rfl) ?_
  refine st rfl rfl (e_move rfl) ?_
  refine stC rfl rfl rfl (laws_markIntA3S_s _ _ _ _ _ _ (by repeat (first | exact look_same | assumption | refine look_ne (by omega) ?_)) (by first | (rw [flat_length]; omega) | simp | omega) (by first | assumption | exact ints_plain _ | exact flat_plain _) (by omega)) ?_
  refine st rfl rfl (e_assign rfl) ?_
  refine stEnd (hK _ [(1, _)] _ _ rfl ?_)
  clear hK K
  refine W.sR [4] fun K hK => ?_
  refine st rfl rfl (e_move rfl) ?_
  refine st rfl rfl (e_assign rfl) ?_
  refine stEnd (hK _ [(4, _)] _ _ rfl ?_)
  clear hK K
  refine W.ret ?_
  refine ⟨.inr rfl, Ends.vU (by omega) (by repeat (first | exact OldBut.self | assumption | refine OldBut.set ?_ (by first | exact Or.inl (by omega) | (simp; done) | (simp; omega)) | refine OldBut.keep (by assumption) ?_ (by omega) (by simp; try omega))) hfresh (by repeat (first | exact look_same | assumption | refine look_ne (by omega) ?_)) ?_ (markV_plain hp) (by first | rfl | (simp [ltT, ltA, ltC, ltV]; try omega)) (res1 (resT rfl) rfl) ?_⟩
  · rfl
  · rfl
theorem laws_markIntS_p_s (b m : Nat) (vs : List Value) (k : Int) (H : Heap) (n : Nat) (hb : H b = some (.cells false vs)) (hl : m ≤ vs.length) (hp : vs.all plainA = true) (hk : (0 ≤ k ∧ k ≤ 1099511627776) ∧ m ≤ 1073741824) : Fn Try.prog 46 [.slice (some ⟨b, 0, none⟩) m 1, .int .i64 k] H n (.int .i64 (k + (m : Int))) (H.set b (.cells false (markV k m vs))) (n) := by
  refine Fn.intro' Try.func46 rfl (by kernel_rfl) Try.ntmps46 (by simp) (by omega) fun hfresh => ?_
  have lt_hb := lt_fresh hfresh hb
  show W _ _ _ ⟨[(0, _), (1, _)], _, _⟩ _
  refine W.sR [0, 1] fun K hK => ?_
  refine st rfl rfl (e_assign rfl) ?_
  refine stEnd (hK _ [(0, _), (1, _)] _ _ rfl ?_)
  clear hK K
  refine W.seq ?_
  refine W.sR [0, 1, 5] fun K hK => ?_
  refine st rfl rfl (e_assign rfl) ?_
  refine stEnd (hK _ [(0, _), (1, _), (5, _)] _ _ rfl ?_)
  clear hK K
  refine W.block ?_
  refine W.ord [1, 5, 0] (ts' := [(1, _), (5, _)] ++ [(0, _)]) rfl ?_
  refine W.loopC [(1, _), (5, _)] [b] (fun κ V G μ => ∃ i : Nat, V = [(1, .int .i64 (k + (i : Int))), (5, .int .i64 (i : Nat))] ∧ κ = m - i ∧ (i ≤ m) ∧ (G b = some (.cells false (markV k i vs)))) _ ⟨0, (by simp), rfl, (by first | omega | assumption | rfl | simp_all), (by rw [markV_zero]; exact (by repeat (first | exact look_same | assumption | refine look_ne (by omega) ?_ | refine look_keep (by assumption) (by omega) (by simp; try omega) ?_)))⟩ fun κ V G μ hinv hμ hkeep hfr => ?_
  obtain ⟨i, rfl, rfl, hi, hG⟩ := hinv
  refine W.seq ?_
  refine W.sR [0, 1, 5, 9] fun K hK => ?_
  refine st rfl rfl (e_move rfl) ?_
  refine st rfl rfl (e_move rfl) ?_
  refine st rfl rfl (e_len t40 rfl) ?_
  refine st rfl rfl (e_lss rfl rfl) ?_
  refine stB (fun hb1 => ?_) (fun hb1 => ?_)
  ·
    try simp only [decide_eq_true_eq, decide_eq_false_iff_not, Bool.not_eq_true', Bool.not_eq_false', Bool.not_eq_true, Bool.not_eq_false] at hb1
    refine stEnd (hK _ [(0, _), (1, _), (5, _), (9, _)] _ _ rfl ?_)
    clear hK K
    refine W.condT rfl ?_
    refine W.skip ?_
    refine thenN ?_
    refine W.seq ?_
    refine W.block ?_
    refine W.sR [0, 1, 5] fun K hK => ?_
    refine st rfl rfl (e_move rfl) ?_
    refine st rfl rfl (e_move rfl) ?_
    refine st rfl rfl (e_move rfl) ?_
    refine st rfl rfl (e_idxSK _ t40 t3 rfl rfl rfl (by first | omega | decide)) ?_
    refine stN rfl (e_store1 t3 rfl rfl rfl (by repeat (first | exact look_same | assumption | refine look_ne (by omega) ?_ | refine look_keep (by assumption) (by omega) (by simp; try omega) ?_)) (by rw [markV_length (by omega)]; omega)) ?_
    refine stEnd (hK _ [(0, _), (1, _), (5, _)] _ _ rfl ?_)
    clear hK K
    refine W.rR [0, 1, 5] fun K hK => ?_
    refine st rfl rfl (e_move rfl) ?_
    refine st rfl rfl (e_add rfl rfl (inB _ (by omega))) ?_
    refine st rfl rfl (e_assign rfl) ?_
    refine stEnd (hK _ [(0, _), (1, _), (5, _)] _ _ rfl ?_)
    clear hK K
    refine blockN ?_
    refine thenN ?_
    refine W.rR [1, 5, 0] fun K hK => ?_
    refine st rfl rfl (e_move rfl) ?_
    refine st rfl rfl (e_add rfl rfl (inB _ (by omega))) ?_
    refine st rfl rfl (e_assign rfl) ?_
    refine stEnd (hK _ [(1, _), (5, _), (0, _)] _ _ rfl ?_)
    clear hK K
    exact roundN (V' := [(1, _), (5, _)]) [1, 5, 0] rfl (by omega) (by repeat (first | exact Keeps.refl _ _ _ | assumption | refine Keeps.trans ?_ (by assumption) (by omega) (by simp; try omega) | refine Keeps.set ?_ (by first | exact Or.inl (by omega) | (simp; done) | (simp; omega)) | refine Keeps.del ?_ (by first | exact Or.inl (by omega) | (simp; done) | (simp; omega)))) _ (by omega) ⟨i + 1, (by simp <;> omega), rfl, (by first | omega | assumption | simp_all), (look_same.trans (congrArg some (congrArg (Blk.cells false) (by rw [show 0 + i * 1 = i by omega]; exact markV_set (by omega) rfl))))⟩
  ·
    try simp only [decide_eq_true_eq, decide_eq_false_iff_not, Bool.not_eq_true', Bool.not_eq_false', Bool.not_eq_true, Bool.not_eq_false] at hb1
    refine stEnd (hK _ [(0, _), (1, _), (5, _), (9, _)] _ _ rfl ?_)
    clear hK K
    refine W.condF rfl ?_
    refine W.exit ?_
    refine thenE ?_
    refine thenE ?_
    refine blockX ?_
    refine thenN ?_
    refine W.sR [4] fun K hK => ?_
    refine st rfl rfl (e_move rfl) ?_
    refine st rfl rfl (e_assign rfl) ?_
    refine stEnd (hK _ [(4, _)] _ _ rfl ?_)
    clear hK K
    refine W.ret ?_
    refine ⟨.inr rfl, Ends.vU (by omega) (by repeat (first | exact OldBut.self | assumption | refine OldBut.set ?_ (by first | exact Or.inl (by omega) | (simp; done) | (simp; omega)) | refine OldBut.keep (by assumption) ?_ (by omega) (by simp; try omega))) hfresh (by repeat (first | exact look_same | assumption | refine look_ne (by omega) ?_ | refine look_keep (by assumption) (by omega) (by simp; try omega) ?_)) ?_ (markV_plain hp) (by first | rfl | (simp [ltT, ltA, ltC, ltV]; try omega)) (res1 (resT rfl) rfl) ?_⟩
    · (obtain rfl : i = m := by omega); rfl
    · (obtain rfl : i = m := by omega); rfl
theorem laws_markIntS_e_s (k : Int) (H : Heap) (n : Nat) : Fn Try.prog 46 [.slice none 0 2, .int .i64 k] H n (.int .i64 k) (H) (n) := by
  refine Fn.intro' Try.func46 rfl (by kernel_rfl) Try.ntmps46 (by simp) (by omega) fun hfresh => ?_
  show W _ _ _ ⟨[(0, _), (1, _)], _, _⟩ _
  refine W.sR [0, 1] fun K hK => ?_
  refine st rfl rfl (e_assign rfl) ?_
  refine stEnd (hK _ [(0, _), (1, _)] _ _ rfl ?_)
  clear hK K
  refine W.seq ?_
  refine W.sR [0, 1, 5] fun K hK => ?_
  refine st rfl rfl (e_assign rfl) ?_
  refine stEnd (hK _ [(0, _), (1, _), (5, _)] _ _ rfl ?_)
  clear hK K
  refine W.block ?_
  refine W.ord [1, 5, 0] (ts' := [(1, _), (5, _)] ++ [(0, _)]) rfl ?_
  refine W.loopC [(1, _), (5, _)] [] (fun κ V G μ => V = [(1, .int .i64 k), (5, .int .i64 0)] ∧ κ = 0) _ ⟨rfl, rfl⟩ fun κ V G μ hinv hμ hkeep hfr => ?_
  obtain ⟨rfl, rfl⟩ := hinv
  refine W.seq ?_
  refine W.sR [0, 1, 5, 9] fun K hK => ?_
  refine st rfl rfl (e_move rfl) ?_
  refine st rfl rfl (e_move rfl) ?_
  refine st rfl rfl (e_len t40 rfl) ?_
  refine st rfl rfl (e_lss rfl rfl) ?_
  refine stB (fun hz => ?_) (fun hz => ?_)
  ·
    exact absurd hz (by simp)
  ·
    try simp only [decide_eq_true_eq, decide_eq_false_iff_not, Bool.not_eq_true', Bool.not_eq_false', Bool.not_eq_true, Bool.not_eq_false] at hz
    refine stEnd (hK _ [(0, _), (1, _), (5, _), (9, _)] _ _ rfl ?_)
    clear hK K
    refine W.condF rfl ?_
    refine W.exit ?_
    refine thenE ?_
    refine thenE ?_
    refine blockX ?_
    refine thenN ?_
    refine W.sR [4] fun K hK => ?_
    refine st rfl rfl (e_move rfl) ?_
    refine st rfl rfl (e_assign rfl) ?_
    refine stEnd (hK _ [(4, _)] _ _ rfl ?_)
    clear hK K
    refine W.ret ?_
    refine ⟨.inr rfl, Ends.v0 (by repeat (first | exact self_old | assumption | refine set_old ?_ (by omega) | refine keep_old (by assumption) ?_ (by omega) (by simp; try omega))) hfresh (by first | rfl | (simp [ltT, ltA, ltC, ltV]; try omega)) (res1 (resT rfl) rfl) ?_⟩
    rfl
theorem laws_markIntS_sv_s (v : Value) (b : Nat) (xs pad : List Int) (k : Int) (H : Heap) (n : Nat) (hv : SV b xs.length v) (hb : H b = some (.cells false (ints (xs ++ pad)))) (hk : (0 ≤ k ∧ k ≤ 1099511627776) ∧ xs.length ≤ 1073741824) : Fn Try.prog 46 [v, .int .i64 k] H n (.int .i64 (k + (xs.length : Int))) (H.set b (.cells false (ints (upto k xs.length ++ pad)))) n := by
  rcases hv with rfl | ⟨h0, rfl⟩
  · have h := laws_markIntS_p_s b xs.length (ints (xs ++ pad)) k H n hb (by rw [ints_length, List.length_append]; omega) (ints_plain _) hk
    rw [markV_pad] at h; exact h
  · obtain rfl : xs = [] := List.eq_nil_of_length_eq_zero h0
    have e : H.set b (.cells false (ints (upto k ([] : List Int).length ++ pad))) = H := by
      funext y
      unfold Heap.set
      split
      · rename_i e; subst e; rw [hb]; rfl
      · rfl
    have e2 : k + ((([] : List Int).length : Nat) : Int) = k := by simp
    rw [e, e2]
    exact laws_markIntS_e_s k H n
theorem laws_heldIntS_p_s (b : Nat) (ro : Bool) (xs pad : List Int) (k : Int) (H : Heap) (n : Nat) (hb : H b = some (.cells ro (ints (xs ++ pad)))) (hk : (0 ≤ k ∧ k ≤ 1099511627776) ∧ xs.length ≤ 1073741824) : Fn Try.prog 47 [.slice (some ⟨b, 0, none⟩) xs.length 1, .int .i64 k] H n (.int .i64 (heldI k xs)) (H) (n) := by
  refine Fn.intro' Try.func47 rfl (by kernel_rfl) Try.ntmps47 (by simp) (by omega) fun hfresh => ?_
  have lt_hb := lt_fresh hfresh hb
  show W _ _ _ ⟨[(0, _), (1, _)], _, _⟩ _
  refine W.sR [0, 1] fun K hK => ?_
  refine st rfl rfl (e_assign rfl) ?_
  refine stEnd (hK _ [(0, _), (1, _)] _ _ rfl ?_)
  clear hK K
  refine W.seq ?_
  refine W.sR [0, 1, 5] fun K hK => ?_
  refine st rfl rfl (e_assign rfl) ?_
  refine stEnd (hK _ [(0, _), (1, _), (5, _)] _ _ rfl ?_)
  clear hK K
  refine W.block ?_
  refine W.ord [1, 5, 0] (ts' := [(1, _), (5, _)] ++ [(0, _)]) rfl ?_
  refine W.loopC [(1, _), (5, _)] [] (fun κ V G μ => ∃ i : Nat, V = [(1, .int .i64 (k + (i : Int))), (5, .int .i64 (i : Nat))] ∧ κ = xs.length - i ∧ (i ≤ xs.length) ∧ (∀ p, p < i → at1 xs p = k + (p : Int))) _ ⟨0, (by simp), rfl, (by first | omega | assumption | rfl | simp_all), (fun p hp => absurd hp (by omega))⟩ fun κ V G μ hinv hμ hkeep hfr => ?_
  obtain ⟨i, rfl, rfl, hi, hq⟩ := hinv
  refine W.seq ?_
  refine W.sR [0, 1, 5, 9] fun K hK => ?_
  refine st rfl rfl (e_move rfl) ?_
  refine st rfl rfl (e_move rfl) ?_
  refine st rfl rfl (e_len t40 rfl) ?_
  refine st rfl rfl (e_lss rfl rfl) ?_
  refine stB (fun hb1 => ?_) (fun hb1 => ?_)
  ·
    try simp only [decide_eq_true_eq, decide_eq_false_iff_not, Bool.not_eq_true', Bool.not_eq_false', Bool.not_eq_true, Bool.not_eq_false] at hb1
    refine stEnd (hK _ [(0, _), (1, _), (5, _), (9, _)] _ _ rfl ?_)
    clear hK K
    refine W.condT rfl ?_
    refine W.skip ?_
    refine thenN ?_
    refine W.seq ?_
    refine W.block ?_
    refine W.seq ?_
    refine W.sR [0, 1, 5, 17] fun K hK => ?_
    refine st rfl rfl (e_move rfl) ?_
    refine st rfl rfl (e_move rfl) ?_
    refine st rfl rfl (e_idxSK _ t40 t3 rfl rfl rfl (by first | omega | decide)) ?_
    refine st rfl rfl (e_load1 t3 rfl rfl (by repeat (first | exact look_same | assumption | refine look_ne (by omega) ?_ | refine look_keep (by assumption) (by omega) (by simp; try omega) ?_)) (show _ = some (Value.int .i64 (at1 xs i)) from (ints_at (zs := xs ++ pad) (by rw [List.length_append]; omega)).trans (congrArg (fun z => some (Value.int .i64 z)) (at1_app (by omega))))) ?_
    refine st rfl rfl (e_move rfl) ?_
    refine st rfl rfl (e_neq rfl rfl) ?_
    refine stB (fun hb2 => ?_) (fun hb2 => ?_)
    ·
      try simp only [decide_eq_true_eq, decide_eq_false_iff_not, Bool.not_eq_true', Bool.not_eq_false', Bool.not_eq_true, Bool.not_eq_false] at hb2
      refine stEnd (hK _ [(0, _), (1, _), (5, _), (17, _)] _ _ rfl ?_)
      clear hK K
      refine W.condT rfl ?_
      refine W.sR [4] fun K hK => ?_
      refine st rfl rfl (e_assign rfl) ?_
      refine stEnd (hK _ [(4, _)] _ _ rfl ?_)
      clear hK K
      refine W.ret ?_
      refine thenR ?_
      refine blockR ?_
      refine thenR ?_
      refine thenR ?_
      refine blockR ?_
      refine thenR ?_
      refine ⟨.inr rfl, Ends.v0 (by repeat (first | exact self_old | assumption | refine set_old ?_ (by omega) | refine keep_old (by assumption) ?_ (by omega) (by simp; try omega))) hfresh (by first | rfl | (simp [ltT, ltA, ltC, ltV]; try omega)) (res1 (resT rfl) rfl) ?_⟩
      first | rw [heldI_no (i := i) (by omega) (by assumption)] | (rw [heldI_yes (fun p hp => hq p (by omega))]; congr 2; omega)
    ·
      try simp only [decide_eq_true_eq, decide_eq_false_iff_not, Bool.not_eq_true', Bool.not_eq_false', Bool.not_eq_true, Bool.not_eq_false] at hb2
      refine stEnd (hK _ [(0, _), (1, _), (5, _), (17, _)] _ _ rfl ?_)
      clear hK K
      refine W.condF rfl ?_
      refine W.skip ?_
      refine thenN ?_
      refine W.rR [0, 1, 5] fun K hK => ?_
      refine st rfl rfl (e_move rfl) ?_
      refine st rfl rfl (e_add rfl rfl (inB _ (by omega))) ?_
      refine st rfl rfl (e_assign rfl) ?_
      refine stEnd (hK _ [(0, _), (1, _), (5, _)] _ _ rfl ?_)
      clear hK K
      refine blockN ?_
      refine thenN ?_
      refine W.rR [1, 5, 0] fun K hK => ?_
      refine st rfl rfl (e_move rfl) ?_
      refine st rfl rfl (e_add rfl rfl (inB _ (by omega))) ?_
      refine st rfl rfl (e_assign rfl) ?_
      refine stEnd (hK _ [(1, _), (5, _), (0, _)] _ _ rfl ?_)
      clear hK K
      exact roundN (V' := [(1, _), (5, _)]) [1, 5, 0] rfl (by omega) (by repeat (first | exact Keeps.refl _ _ _ | assumption | refine Keeps.trans ?_ (by assumption) (by omega) (by simp; try omega) | refine Keeps.set ?_ (by first | exact Or.inl (by omega) | (simp; done) | (simp; omega)) | refine Keeps.del ?_ (by first | exact Or.inl (by omega) | (simp; done) | (simp; omega)))) _ (by omega) ⟨i + 1, (by simp <;> omega), rfl, (by first | omega | assumption | simp_all), (all_succ hq (by assumption))⟩
  ·
    try simp only [decide_eq_true_eq, decide_eq_false_iff_not, Bool.not_eq_true', Bool.not_eq_false', Bool.not_eq_true, Bool.not_eq_false] at hb1
    refine stEnd (hK _ [(0, _), (1, _), (5, _), (9, _)] _ _ rfl ?_)
    clear hK K
    refine W.condF rfl ?_
    refine W.exit ?_
    refine thenE ?_
    refine thenE ?_
    refine blockX ?_
    refine thenN ?_
    refine W.sR [4] fun K hK => ?_
    refine st rfl rfl (e_move rfl) ?_
    refine st rfl rfl (e_assign rfl) ?_
    refine stEnd (hK _ [(4, _)] _ _ rfl ?_)
    clear hK K
    refine W.ret ?_
    refine ⟨.inr rfl, Ends.v0 (by repeat (first | exact self_old | assumption | refine set_old ?_ (by omega) | refine keep_old (by assumption) ?_ (by omega) (by simp; try omega))) hfresh (by first | rfl | (simp [ltT, ltA, ltC, ltV]; try omega)) (res1 (resT rfl) rfl) ?_⟩
    first | rw [heldI_no (i := i) (by omega) (by assumption)] | (rw [heldI_yes (fun p hp => hq p (by omega))]; congr 2; omega)
theorem laws_heldIntS_e_s (k : Int) (H : Heap) (n : Nat) : Fn Try.prog 47 [.slice none 0 2, .int .i64 k] H n (.int .i64 k) (H) (n) := by
  refine Fn.intro' Try.func47 rfl (by kernel_rfl) Try.ntmps47 (by simp) (by omega) fun hfresh => ?_
  show W _ _ _ ⟨[(0, _), (1, _)], _, _⟩ _
  refine W.sR [0, 1] fun K hK => ?_
  refine st rfl rfl (e_assign rfl) ?_
  refine stEnd (hK _ [(0, _), (1, _)] _ _ rfl ?_)
  clear hK K
  refine W.seq ?_
  refine W.sR [0, 1, 5] fun K hK => ?_
  refine st rfl rfl (e_assign rfl) ?_
  refine stEnd (hK _ [(0, _), (1, _), (5, _)] _ _ rfl ?_)
  clear hK K
  refine W.block ?_
  refine W.ord [1, 5, 0] (ts' := [(1, _), (5, _)] ++ [(0, _)]) rfl ?_
  refine W.loopC [(1, _), (5, _)] [] (fun κ V G μ => V = [(1, .int .i64 k), (5, .int .i64 0)] ∧ κ = 0) _ ⟨rfl, rfl⟩ fun κ V G μ hinv hμ hkeep hfr => ?_
  obtain ⟨rfl, rfl⟩ := hinv
  refine W.seq ?_
  refine W.sR [0, 1, 5, 9] fun K hK => ?_
  refine st rfl rfl (e_move rfl) ?_
  refine st rfl rfl (e_move rfl) ?_
  refine st rfl rfl (e_len t40 rfl) ?_
  refine st rfl rfl (e_lss rfl rfl) ?_
  refine stB (fun hz => ?_) (fun hz => ?_)
  ·
    exact absurd hz (by simp)
  ·
    try simp only [decide_eq_true_eq, decide_eq_false_iff_not, Bool.not_eq_true', Bool.not_eq_false', Bool.not_eq_true, Bool.not_eq_false] at hz
    refine stEnd (hK _ [(0, _), (1, _), (5, _), (9, _)] _ _ rfl ?_)
    clear hK K
    refine W.condF rfl ?_
    refine W.exit ?_
    refine thenE ?_
    refine thenE ?_
    refine blockX ?_
    refine thenN ?_
    refine W.sR [4] fun K hK => ?_
    refine st rfl rfl (e_move rfl) ?_
    refine st rfl rfl (e_assign rfl) ?_
    refine stEnd (hK _ [(4, _)] _ _ rfl ?_)
    clear hK K
    refine W.ret ?_
    refine ⟨.inr rfl, Ends.v0 (by repeat (first | exact self_old | assumption | refine set_old ?_ (by omega) | refine keep_old (by assumption) ?_ (by omega) (by simp; try omega))) hfresh (by first | rfl | (simp [ltT, ltA, ltC, ltV]; try omega)) (res1 (resT rfl) rfl) ?_⟩
    rfl
theorem laws_heldIntS_sv_s (v : Value) (b : Nat) (ro : Bool) (xs pad : List Int) (k : Int) (H : Heap) (n : Nat) (hv : SV b xs.length v) (hb : H b = some (.cells ro (ints (xs ++ pad)))) (hk : (0 ≤ k ∧ k ≤ 1099511627776) ∧ xs.length ≤ 1073741824) : Fn Try.prog 47 [v, .int .i64 k] H n (.int .i64 (heldI k xs)) (H) n := by
  rcases hv with rfl | ⟨h0, rfl⟩
  · exact laws_heldIntS_p_s b ro xs pad k H n hb hk
  · obtain rfl : xs = [] := List.eq_nil_of_length_eq_zero h0
    have e2 : heldI k [] = k := by simp [heldI, upto]
    rw [e2]
    exact laws_heldIntS_e_s k H n
set_option maxHeartbeats 1600000 in
theorem laws_FnExactStepColumns_ok (X Y Z : Int) (sv : Value) (cs : List C) (r : Nat) (p s : Int) (H : Heap) (n : Nat) (hr : RowC H r sv cs) (hrn : r ≤ n) (hlen : cs.length ≤ 1048576) (hh : isHeap X Y Z cs = true) (hp : 0 ≤ p ∧ p < X * Y) (hs : 0 ≤ s) : Fn Try.prog 11 [.agg #[.int .i64 X, .int .i64 Y, .int .i64 Z, sv], .int .i64 p, .int .i64 s] H n (.bool true) (H) (n) := by
  refine Fn.intro' Try.func11 rfl (by kernel_rfl) Try.ntmps11 (by simp) (by omega) fun hfresh => ?_
  obtain ⟨sp0, se0, rfl⟩ := hr.form
  have hv := valid_of hh
  have hX := hv.box
  have hvl := vol_le hX
  have hnl := near_len Y (X * Y).toNat p.toNat
  have hkl := kept_le (stF (topsN X Y cs cs.length) p s) (nearL Y (X * Y).toNat p.toNat)
  show W _ _ _ ⟨[(0, _), (1, _), (2, _)], _, _⟩ _
  refine W.sR [1, 2, 3] fun K hK => ?_
  refine st rfl rfl (e_boxA rfl) ?_
  refine st rfl rfl (e_assign rfl) ?_
  refine stEnd (hK _ [(1, _), (2, _), (3, _)] _ _ rfl ?_)
  clear hK K
  refine W.sR [1, 2, 3, 7] fun K hK => ?_
  refine st rfl rfl (e_assign rfl) ?_
  refine stEnd (hK _ [(1, _), (2, _), (3, _), (7, _)] _ _ rfl ?_)
  clear hK K
  refine W.sR [1, 2, 3, 7] fun K hK => ?_
  refine st rfl rfl (e_loadA t24 rfl rfl (by repeat (first | exact look_same | assumption | refine look_ne (by omega) ?_)) rfl rfl) ?_
  refine st rfl rfl (e_move rfl) ?_
  refine stC rfl rfl rfl (laws_szHeap_s _ _ _ _ _ _ _ _ _ (by omega)) ?_
  rw [if_neg (by omega)]
  refine st rfl rfl (e_assign rfl) ?_
  refine stEnd (hK _ [(1, _), (2, _), (3, _), (7, _)] _ _ rfl ?_)
  clear hK K
  refine W.seq ?_
  refine W.sR [1, 2, 3, 22] fun K hK => ?_
  refine st rfl rfl (e_move rfl) ?_
  refine st rfl rfl (e_lss rfl rfl) ?_
  refine stB (fun hz => ?_) (fun hz => ?_)
  ·
    first | (have hz2 := of_decide_eq_true hz; omega) | (simp at hz; done) | (simp at hz; omega)
  ·
    try simp only [decide_eq_true_eq, decide_eq_false_iff_not, Bool.not_eq_true', Bool.not_eq_false', Bool.not_eq_true, Bool.not_eq_false] at hz
    refine stEnd (hK _ [(1, _), (2, _), (3, _), (22, _)] _ _ rfl ?_)
    clear hK K
    refine W.condF rfl ?_
    refine W.skip ?_
    refine thenN ?_
    refine W.sR [1, 2, 3, 8, 9] fun K hK => ?_
    refine st rfl rfl (e_loadA t24 rfl rfl (by repeat (first | exact look_same | assumption | refine look_ne (by omega) ?_)) rfl rfl) ?_
    refine stC rfl rfl rfl (laws_toHeap_s _ _ _ _ _ _ _ _ (RowC.keep hr (Nat.le_refl _) (by repeat (first | exact self_old | assumption | refine set_old ?_ (by omega)))) (by omega) (by omega)) ?_
    refine st rfl rfl (e_move rfl) ?_
    refine st rfl rfl (e_move rfl) ?_
    refine stC rfl rfl rfl (spec_StepColumns_ok_s _ _ _ _ _ _ _ _ _ _ (by repeat (first | exact look_same | assumption | refine look_ne (by omega) ?_)) (by omega) (by assumption) (by assumption) (by assumption)) ?_
    refine st rfl rfl (e_move rfl) ?_
    refine st rfl rfl (e_extract rfl rfl) ?_
    refine st rfl rfl (e_extract rfl rfl) ?_
    refine st rfl rfl (e_assign rfl) ?_
    refine st rfl rfl (e_assign rfl) ?_
    refine stEnd (hK _ [(1, _), (2, _), (3, _), (8, _), (9, _)] _ _ rfl ?_)
    clear hK K
    refine W.sR [1, 2, 3, 8, 9, 10] fun K hK => ?_
    refine st rfl rfl (e_loadA t24 rfl rfl (by repeat (first | exact look_same | assumption | refine look_ne (by omega) ?_)) rfl rfl) ?_
    refine stC rfl rfl rfl (laws_toHeap_s _ _ _ _ _ _ _ _ (RowC.keep hr (Nat.le_refl _) (by repeat (first | exact self_old | assumption | refine set_old ?_ (by omega)))) (by omega) (by omega)) ?_
    refine st rfl rfl (e_alloc t30 rfl) ?_
    refine stN rfl (e_storeA t30 rfl rfl (by repeat (first | exact look_same | assumption | refine look_ne (by omega) ?_)) rfl rfl rfl (by decide)) ?_
    refine stEnd (hK _ [(1, _), (2, _), (3, _), (8, _), (9, _), (10, _)] _ _ rfl ?_)
    clear hK K
    refine W.sR [1, 2, 3, 8, 9, 10, 11, 12] fun K hK => ?_
    refine st rfl rfl (e_loadA t30 rfl rfl (by repeat (first | exact look_same | assumption | refine look_ne (by omega) ?_)) rfl rfl) ?_
    refine st rfl rfl (e_move rfl) ?_
    refine st rfl rfl (e_move rfl) ?_
    refine stC rfl rfl rfl (impl_StepColumns_ok_s _ _ _ _ _ _ _ _ _ _ (by repeat (first | exact look_same | assumption | refine look_ne (by omega) ?_)) (by omega) (by assumption) (by assumption) (by assumption)) ?_
    refine st rfl rfl (e_move rfl) ?_
    refine st rfl rfl (e_extract rfl rfl) ?_
    refine st rfl rfl (e_extract rfl rfl) ?_
    refine st rfl rfl (e_assign rfl) ?_
    refine st rfl rfl (e_assign rfl) ?_
    refine stEnd (hK _ [(1, _), (2, _), (3, _), (8, _), (9, _), (10, _), (11, _), (12, _)] _ _ rfl ?_)
    clear hK K
    refine W.seq ?_
    refine W.sR [1, 2, 3, 8, 9, 10, 11, 12, 48] fun K hK => ?_
    refine st rfl rfl (e_move rfl) ?_
    refine st rfl rfl (e_move rfl) ?_
    refine stC rfl rfl rfl (laws_eqIntS_sv_s _ _ _ _ _ _ _ _ _ (delV_sv _ _ _) (by repeat (first | exact look_same | assumption | refine look_ne (by omega) ?_)) (by repeat (first | exact look_same | assumption | refine look_ne (by omega) ?_)) (by omega)) ?_
    refine st rfl rfl (e_not rfl) ?_
    refine st rfl rfl (e_move rfl) ?_
    refine st rfl rfl (e_move rfl) ?_
    refine st rfl rfl (e_move rfl) ?_
    refine st rfl rfl (e_neqB_same t4 rfl rfl) ?_
    refine st rfl rfl (e_pickF rfl rfl) ?_
    refine stEnd (hK _ [(1, _), (2, _), (3, _), (8, _), (9, _), (10, _), (11, _), (12, _), (48, _)] _ _ rfl ?_)
    clear hK K
    refine W.condF rfl ?_
    refine W.skip ?_
    refine thenN ?_
    refine W.seq ?_
    refine W.sD [1, 2, 3, 8, 9, 10, 11, 12, 53] [0, 0, 2, 7, 15] (by kernel_rfl) (by kernel_rfl) fun K hK => ?_
    refine dL rfl rfl rfl (by omega) (accB_ok rfl) (e_loadA t30 rfl rfl (by repeat (first | exact look_same | assumption | refine look_ne (by omega) ?_)) rfl rfl) ?_
    refine dL rfl rfl rfl (by omega) (accB_ok rfl) (e_loadA t24 rfl rfl (by repeat (first | exact look_same | assumption | refine look_ne (by omega) ?_)) rfl rfl) ?_
    refine dC1 rfl rfl rfl rfl (laws_toHeap_s _ _ _ _ _ _ _ _ (RowC.keep hr (Nat.le_refl _) (by repeat (first | exact self_old | assumption | refine set_old ?_ (by omega) | refine hide_old ?_ (by omega) (by first | exact List.not_mem_nil | (simp [hidden, Nat.testBit]; done) | (simp [hidden, Nat.testBit]; omega))))) (by omega) (by omega)) (by repeat (first | exact trivial | refine And.intro (Or.inl rfl) ?_ | refine And.intro (Or.inr trivial) ?_ | refine And.intro (Or.inr (And.intro (Or.inl (by omega)) (by first | (simp; done) | (simp; omega)))) ?_ | refine And.intro (Or.inr (And.intro (Or.inr (by omega)) (by first | (simp; done) | (simp; omega)))) ?_ | refine And.intro (Or.inr (by simp [compat]; try omega)) ?_)) (by first | exact List.not_mem_nil | (simp [hidden, Nat.testBit]; done) | (simp [hidden, Nat.testBit]; omega)) ?_
    refine dC rfl rfl rfl rfl (laws_eqHeap_s _ _ _ _ _ _ _ _ _ _ _ _ _ _ (by repeat (first | exact look_same | assumption | refine look_ne (by omega) ?_ | refine look_hide (by omega) (by first | exact List.not_mem_nil | (simp [hidden, Nat.testBit]; done) | (simp [hidden, Nat.testBit]; omega)) ?_)) (by repeat (first | exact look_same | assumption | refine look_ne (by omega) ?_ | refine look_hide (by omega) (by first | exact List.not_mem_nil | (simp [hidden, Nat.testBit]; done) | (simp [hidden, Nat.testBit]; omega)) ?_)) (by omega)) (accB_ok rfl) ?_
    rw [decide_eq_true (by simp)]
    refine dP rfl rfl rfl (e_not rfl) ?_
    refine dEnd (hK _ [(1, _), (2, _), (3, _), (8, _), (9, _), (10, _), (11, _), (12, _), (53, _)] _ _ rfl ?_)
    clear hK K
    refine W.condF rfl ?_
    refine W.skip ?_
    refine thenN ?_
    refine W.sR [1, 2, 3, 8, 9, 10, 11, 12, 13] fun K hK => ?_
    refine st rfl rfl (e_assign rfl) ?_
    refine stEnd (hK _ [(1, _), (2, _), (3, _), (8, _), (9, _), (10, _), (11, _), (12, _), (13, _)] _ _ rfl ?_)
    clear hK K
    refine W.sR [1, 2, 3, 8, 9, 11, 12, 13] fun K hK => ?_
    refine st rfl rfl (e_loadA t30 rfl rfl (by repeat (first | exact look_same | assumption | refine look_ne (by omega) ?_)) rfl rfl) ?_
    refine st rfl rfl (e_move rfl) ?_
    refine stC rfl rfl rfl (laws_markHeap_s _ _ _ _ _ _ _ _ _ (by repeat (first | exact look_same | assumption | refine look_ne (by omega) ?_)) (by first | (rw [flat_length]; omega) | simp | omega) (by first | assumption | exact ints_plain _ | exact flat_plain _) (by omega)) ?_
    rw [markV_flat]
    refine st rfl rfl (e_assign rfl) ?_
    refine stEnd (hK _ [(1, _), (2, _), (3, _), (8, _), (9, _), (11, _), (12, _), (13, _)] _ _ rfl ?_)
    clear hK K
    refine W.seq ?_
    refine W.sR [1, 2, 3, 8, 9, 11, 69] fun K hK => ?_
    refine st rfl rfl (e_move rfl) ?_
    refine st rfl rfl (e_lss rfl rfl) ?_
    refine st rfl rfl (e_move rfl) ?_
    refine stB (fun hb2 => ?_) (fun hb2 => ?_)
    ·
      try simp only [decide_eq_true_eq, decide_eq_false_iff_not, Bool.not_eq_true', Bool.not_eq_false', Bool.not_eq_true, Bool.not_eq_false] at hb2
      refine stS rfl rfl ?_
      refine stS rfl rfl ?_
      refine stS rfl rfl ?_
      refine stS rfl rfl ?_
      refine st rfl rfl (e_pickT rfl rfl) ?_
      refine st rfl rfl (e_move rfl) ?_
      refine stS rfl rfl ?_
      refine stS rfl rfl ?_
      refine stS rfl rfl ?_
      refine st rfl rfl (e_pickT rfl rfl) ?_
      refine stEnd (hK _ [(1, _), (2, _), (3, _), (8, _), (9, _), (11, _), (69, _)] _ _ rfl ?_)
      clear hK K
      refine W.condT rfl ?_
      refine W.sR [6] fun K hK => ?_
      refine st rfl rfl (e_assign rfl) ?_
      refine stEnd (hK _ [(6, _)] _ _ rfl ?_)
      clear hK K
      refine W.ret ?_
      refine thenR ?_
      refine ⟨.inr rfl, Ends.v0 (by repeat (first | exact self_old | assumption | refine set_old ?_ (by omega))) hfresh (by first | rfl | (simp [ltT, ltA, ltC, ltV]; try omega)) (res1 (resT rfl) rfl) ?_⟩
      first | rfl | (exfalso; omega)
    ·
      try simp only [decide_eq_true_eq, decide_eq_false_iff_not, Bool.not_eq_true', Bool.not_eq_false', Bool.not_eq_true, Bool.not_eq_false] at hb2
      refine st rfl rfl (e_move rfl) ?_
      refine st rfl rfl (e_move rfl) ?_
      refine stC rfl rfl rfl (laws_eqIntS_sv_s _ _ _ _ _ _ _ _ _ (delV_sv _ _ _) (by repeat (first | exact look_same | assumption | refine look_ne (by omega) ?_)) (by repeat (first | exact look_same | assumption | refine look_ne (by omega) ?_)) (by omega)) ?_
      refine st rfl rfl (e_not rfl) ?_
      refine st rfl rfl (e_pickF rfl rfl) ?_
      refine st rfl rfl (e_move rfl) ?_
      refine st rfl rfl (e_move rfl) ?_
      refine st rfl rfl (e_move rfl) ?_
      refine st rfl rfl (e_neqB_same t4 rfl rfl) ?_
      refine st rfl rfl (e_pickF rfl rfl) ?_
      refine stEnd (hK _ [(1, _), (2, _), (3, _), (8, _), (9, _), (11, _), (69, _)] _ _ rfl ?_)
      clear hK K
      refine W.condF rfl ?_
      refine W.skip ?_
      refine thenN ?_
      refine W.sR [1, 2, 3, 8, 9, 11, 14] fun K hK => ?_
      refine st rfl rfl (e_assign rfl) ?_
      refine stEnd (hK _ [(1, _), (2, _), (3, _), (8, _), (9, _), (11, _), (14, _)] _ _ rfl ?_)
      clear hK K
      refine W.sR [1, 2, 3, 8, 9, 11, 14] fun K hK => ?_
      refine st rfl rfl (e_move rfl) ?_
      refine st rfl rfl (e_move rfl) ?_
      refine stC rfl rfl rfl (laws_markIntS_sv_s _ _ _ _ _ _ _ (delV_sv _ _ _) (by repeat (first | exact look_same | assumption | refine look_ne (by omega) ?_)) (by omega)) ?_
      refine st rfl rfl (e_assign rfl) ?_
      refine stEnd (hK _ [(1, _), (2, _), (3, _), (8, _), (9, _), (11, _), (14, _)] _ _ rfl ?_)
      clear hK K
      refine W.sR [1, 2, 3, 8, 9, 11, 14, 15] fun K hK => ?_
      refine st rfl rfl (e_assign rfl) ?_
      refine stEnd (hK _ [(1, _), (2, _), (3, _), (8, _), (9, _), (11, _), (14, _), (15, _)] _ _ rfl ?_)
      clear hK K
      refine W.sR [1, 2, 3, 8, 9, 11, 14, 15] fun K hK => ?_
      refine st rfl rfl (e_move rfl) ?_
      refine st rfl rfl (e_move rfl) ?_
      refine stC rfl rfl rfl (laws_heldIntS_sv_s _ _ _ (upto 1 (kept (stF (topsN X Y cs cs.length) p s) (nearL Y (X * Y).toNat p.toNat)).length) _ _ _ _ (by rw [upto_length]; exact delV_sv _ _ _) (by repeat (first | exact look_same | assumption | refine look_ne (by omega) ?_)) (by rw [upto_length]; omega)) ?_
      rw [heldI_mark]
      refine st rfl rfl (e_assign rfl) ?_
      refine stEnd (hK _ [(1, _), (2, _), (3, _), (8, _), (9, _), (11, _), (14, _), (15, _)] _ _ rfl ?_)
      clear hK K
      refine W.seq ?_
      refine W.sR [1, 2, 3, 8, 9, 11, 14, 15, 77] fun K hK => ?_
      refine st rfl rfl (e_move rfl) ?_
      refine st rfl rfl (e_lss rfl rfl) ?_
      refine stB (fun hz => ?_) (fun hz => ?_)
      ·
        first | (have hz2 := of_decide_eq_true hz; omega) | (simp at hz; done) | (simp at hz; omega)
      ·
        try simp only [decide_eq_true_eq, decide_eq_false_iff_not, Bool.not_eq_true', Bool.not_eq_false', Bool.not_eq_true, Bool.not_eq_false] at hz
        refine stEnd (hK _ [(1, _), (2, _), (3, _), (8, _), (9, _), (11, _), (14, _), (15, _), (77, _)] _ _ rfl ?_)
        clear hK K
        refine W.condF rfl ?_
        refine W.skip ?_
        refine thenN ?_
        refine W.seq ?_
        refine W.sR [1, 2, 3, 8, 9, 11, 14, 80] fun K hK => ?_
        refine st rfl rfl (e_move rfl) ?_
        refine st rfl rfl (e_move rfl) ?_
        refine st rfl rfl (e_neq rfl rfl) ?_
        refine stB (fun hz => ?_) (fun hz => ?_)
        ·
          first | (have hz2 := of_decide_eq_true hz; omega) | (simp at hz; done) | (simp at hz; omega)
        ·
          try simp only [decide_eq_true_eq, decide_eq_false_iff_not, Bool.not_eq_true', Bool.not_eq_false', Bool.not_eq_true, Bool.not_eq_false] at hz
          refine stEnd (hK _ [(1, _), (2, _), (3, _), (8, _), (9, _), (11, _), (14, _), (80, _)] _ _ rfl ?_)
          clear hK K
          refine W.condF rfl ?_
          refine W.skip ?_
          refine thenN ?_
          refine W.sR [8, 9, 11, 14, 16, 17] fun K hK => ?_
          refine st rfl rfl (e_loadA t24 rfl rfl (by repeat (first | exact look_same | assumption | refine look_ne (by omega) ?_)) rfl rfl) ?_
          refine stC rfl rfl rfl (laws_toHeap_s _ _ _ _ _ _ _ _ (RowC.keep hr (Nat.le_refl _) (by repeat (first | exact self_old | assumption | refine set_old ?_ (by omega)))) (by omega) (by omega)) ?_
          refine st rfl rfl (e_move rfl) ?_
          refine st rfl rfl (e_move rfl) ?_
          refine stC rfl rfl rfl (impl_StepColumns_ok_s _ _ _ _ _ _ _ _ _ _ (by repeat (first | exact look_same | assumption | refine look_ne (by omega) ?_)) (by omega) (by assumption) (by assumption) (by assumption)) ?_
          refine st rfl rfl (e_move rfl) ?_
          refine st rfl rfl (e_extract rfl rfl) ?_
          refine st rfl rfl (e_extract rfl rfl) ?_
          refine st rfl rfl (e_assign rfl) ?_
          refine st rfl rfl (e_assign rfl) ?_
          refine stEnd (hK _ [(8, _), (9, _), (11, _), (14, _), (16, _), (17, _)] _ _ rfl ?_)
          clear hK K
          refine W.seq ?_
          refine W.sR [11, 14, 97] fun K hK => ?_
          refine st rfl rfl (e_move rfl) ?_
          refine st rfl rfl (e_move rfl) ?_
          refine stC rfl rfl rfl (laws_eqIntS_sv_s _ _ _ _ _ _ _ _ _ (delV_sv _ _ _) (by repeat (first | exact look_same | assumption | refine look_ne (by omega) ?_)) (by repeat (first | exact look_same | assumption | refine look_ne (by omega) ?_)) (by omega)) ?_
          refine st rfl rfl (e_not rfl) ?_
          refine st rfl rfl (e_move rfl) ?_
          refine st rfl rfl (e_move rfl) ?_
          refine st rfl rfl (e_move rfl) ?_
          refine st rfl rfl (e_neqB_same t4 rfl rfl) ?_
          refine st rfl rfl (e_pickF rfl rfl) ?_
          refine stEnd (hK _ [(11, _), (14, _), (97, _)] _ _ rfl ?_)
          clear hK K
          refine W.condF rfl ?_
          refine W.skip ?_
          refine thenN ?_
          refine W.sR [11, 14, 15] fun K hK => ?_
          refine st rfl rfl (e_assign rfl) ?_
          refine stEnd (hK _ [(11, _), (14, _), (15, _)] _ _ rfl ?_)
          clear hK K
          refine W.sR [14, 15] fun K hK => ?_
          refine st rfl rfl (e_move rfl) ?_
          refine st rfl rfl (e_move rfl) ?_
          refine stC rfl rfl rfl (laws_heldIntS_sv_s _ _ _ (upto 1 (kept (stF (topsN X Y cs cs.length) p s) (nearL Y (X * Y).toNat p.toNat)).length) _ _ _ _ (by rw [upto_length]; exact delV_sv _ _ _) (by repeat (first | exact look_same | assumption | refine look_ne (by omega) ?_)) (by rw [upto_length]; omega)) ?_
          rw [heldI_mark]
          refine st rfl rfl (e_assign rfl) ?_
          refine stEnd (hK _ [(14, _), (15, _)] _ _ rfl ?_)
          clear hK K
          refine W.seq ?_
          refine W.sR [14, 15, 102] fun K hK => ?_
          refine st rfl rfl (e_move rfl) ?_
          refine st rfl rfl (e_lss rfl rfl) ?_
          refine stB (fun hz => ?_) (fun hz => ?_)
          ·
            first | (have hz2 := of_decide_eq_true hz; omega) | (simp at hz; done) | (simp at hz; omega)
          ·
            try simp only [decide_eq_true_eq, decide_eq_false_iff_not, Bool.not_eq_true', Bool.not_eq_false', Bool.not_eq_true, Bool.not_eq_false] at hz
            refine stEnd (hK _ [(14, _), (15, _), (102, _)] _ _ rfl ?_)
            clear hK K
            refine W.condF rfl ?_
            refine W.skip ?_
            refine thenN ?_
            refine W.seq ?_
            refine W.sR [105] fun K hK => ?_
            refine st rfl rfl (e_move rfl) ?_
            refine st rfl rfl (e_move rfl) ?_
            refine st rfl rfl (e_neq rfl rfl) ?_
            refine stB (fun hz => ?_) (fun hz => ?_)
            ·
              first | (have hz2 := of_decide_eq_true hz; omega) | (simp at hz; done) | (simp at hz; omega)
            ·
              try simp only [decide_eq_true_eq, decide_eq_false_iff_not, Bool.not_eq_true', Bool.not_eq_false', Bool.not_eq_true, Bool.not_eq_false] at hz
              refine stEnd (hK _ [(105, _)] _ _ rfl ?_)
              clear hK K
              refine W.condF rfl ?_
              refine W.skip ?_
              refine thenN ?_
              refine W.sR [6] fun K hK => ?_
              refine st rfl rfl (e_assign rfl) ?_
              refine stEnd (hK _ [(6, _)] _ _ rfl ?_)
              clear hK K
              refine W.ret ?_
              refine ⟨.inr rfl, Ends.v0 (by repeat (first | exact self_old | assumption | refine set_old ?_ (by omega))) hfresh (by first | rfl | (simp [ltT, ltA, ltC, ltV]; try omega)) (res1 (resT rfl) rfl) ?_⟩
              first | rfl | (exfalso; omega)
theorem spec_StepColumns_no_s (X Y Z : Int) (b : Nat) (ro : Bool) (cs : List C) (p s : Int) (H : Heap) (n : Nat) (hb : H b = some (.cells ro (flat cs))) (hlen : cs.length ≤ 1048576) (hno : (isHeap X Y Z cs && within p 0 (X * Y - 1) && decide (0 ≤ s)) = false) : Fn Try.prog 44 [.agg #[.int .i64 X, .int .i64 Y, .int .i64 Z, .slice (some ⟨b, 0, none⟩) cs.length 3], .int .i64 p, .int .i64 s] H n (.tuple #[.slice (some ⟨n, 0, none⟩) 0 1, .bool false]) (H.set n (.cells false [])) (n + 1) := by
  refine Fn.intro' Try.func44 rfl (by kernel_rfl) Try.ntmps44 (by simp) (by omega) fun hfresh => ?_
  have lt_hb := lt_fresh hfresh hb
  show W _ _ _ ⟨[(0, _), (1, _), (2, _)], _, _⟩ _
  refine W.sR [1, 2, 3] fun K hK => ?_
  refine st rfl rfl (e_boxA rfl) ?_
  refine st rfl rfl (e_assign rfl) ?_
  refine st rfl rfl (e_assign rfl) ?_
  refine stEnd (hK _ [(1, _), (2, _), (3, _)] _ _ rfl ?_)
  clear hK K
  refine W.seq ?_
  refine W.sR [1, 2, 3, 15] fun K hK => ?_
  refine st rfl rfl (e_loadA t30 rfl rfl (by repeat (first | exact look_same | assumption | refine look_ne (by omega) ?_)) rfl rfl) ?_
  refine st rfl rfl (e_move rfl) ?_
  refine stC rfl rfl rfl (spec_l10Column_s _ _ _ _ _ _ _ _ _ (by repeat (first | exact look_same | assumption | refine look_ne (by omega) ?_)) (by omega)) ?_
  refine st rfl rfl (e_not rfl) ?_
  refine st rfl rfl (e_move rfl) ?_
  refine stB (fun hc0 => ?_) (fun hc0 => ?_)
  ·
    try simp only [decide_eq_true_eq, decide_eq_false_iff_not, Bool.not_eq_true', Bool.not_eq_false', Bool.not_eq_true, Bool.not_eq_false] at hc0
    refine stS rfl rfl ?_
    refine stS rfl rfl ?_
    refine st rfl rfl (e_pickT rfl rfl) ?_
    refine stEnd (hK _ [(1, _), (2, _), (3, _), (15, _)] _ _ rfl ?_)
    clear hK K
    refine W.condT rfl ?_
    refine W.sR [6, 7] fun K hK => ?_
    refine st rfl rfl (e_buildSlice rfl rfl (bsl40_0)) ?_
    refine st rfl rfl (e_assign rfl) ?_
    refine st rfl rfl (e_assign rfl) ?_
    refine stEnd (hK _ [(6, _), (7, _)] _ _ rfl ?_)
    clear hK K
    refine W.ret ?_
    refine thenR ?_
    refine ⟨.inr rfl, Ends.v1 (n + 1) (by omega) (by repeat (first | exact self_old | assumption | refine set_old ?_ (by omega))) hfresh (by repeat (first | exact look_same | assumption | refine look_ne (by omega) ?_)) ?_ rfl (by simp [ltT, ltA, ltC, ltV]; try omega) (res2 (resT rfl) (resT rfl) rfl rfl) ?_⟩
    · rfl
    · simp [renT, renV, renC, renA, one]
  ·
    try simp only [decide_eq_true_eq, decide_eq_false_iff_not, Bool.not_eq_true', Bool.not_eq_false', Bool.not_eq_true, Bool.not_eq_false] at hc0
    refine st rfl rfl (e_move rfl) ?_
    refine st rfl rfl (e_lss rfl rfl) ?_
    refine st rfl rfl (e_pickF rfl rfl) ?_
    refine stB (fun hz => ?_) (fun hz => ?_)
    ·
      try simp only [decide_eq_true_eq, decide_eq_false_iff_not, Bool.not_eq_true', Bool.not_eq_false', Bool.not_eq_true, Bool.not_eq_false] at hz
      refine stEnd (hK _ [(1, _), (2, _), (3, _), (15, _)] _ _ rfl ?_)
      clear hK K
      refine W.condT rfl ?_
      refine W.sR [6, 7] fun K hK => ?_
      refine st rfl rfl (e_buildSlice rfl rfl (bsl40_0)) ?_
      refine st rfl rfl (e_assign rfl) ?_
      refine st rfl rfl (e_assign rfl) ?_
      refine stEnd (hK _ [(6, _), (7, _)] _ _ rfl ?_)
      clear hK K
      refine W.ret ?_
      refine thenR ?_
      refine ⟨.inr rfl, Ends.v1 (n + 1) (by omega) (by repeat (first | exact self_old | assumption | refine set_old ?_ (by omega))) hfresh (by repeat (first | exact look_same | assumption | refine look_ne (by omega) ?_)) ?_ rfl (by simp [ltT, ltA, ltC, ltV]; try omega) (res2 (resT rfl) (resT rfl) rfl rfl) ?_⟩
      · rfl
      · simp [renT, renV, renC, renA, one]
    ·
      (exfalso; simp only [decide_eq_false_iff_not] at hz; rw [hc0, Bool.true_and, decide_eq_false_iff_not] at hno; omega)
theorem impl_StepColumns_no_s (X Y Z : Int) (b : Nat) (ro : Bool) (cs : List C) (p s : Int) (H : Heap) (n : Nat) (hb : H b = some (.cells ro (flat cs))) (hlen : cs.length ≤ 1048576) (hno : (isHeap X Y Z cs && within p 0 (X * Y - 1) && decide (0 ≤ s)) = false) : Fn Try.prog 45 [.agg #[.int .i64 X, .int .i64 Y, .int .i64 Z, .slice (some ⟨b, 0, none⟩) cs.length 3], .int .i64 p, .int .i64 s] H n (.tuple #[.slice none 0 0, .bool false]) (H) (n) := by
  refine Fn.intro' Try.func45 rfl (by kernel_rfl) Try.ntmps45 (by simp) (by omega) fun hfresh => ?_
  have lt_hb := lt_fresh hfresh hb
  show W _ _ _ ⟨[(0, _), (1, _), (2, _)], _, _⟩ _
  refine W.sR [1, 2, 3] fun K hK => ?_
  refine st rfl rfl (e_boxA rfl) ?_
  refine st rfl rfl (e_assign rfl) ?_
  refine st rfl rfl (e_assign rfl) ?_
  refine stEnd (hK _ [(1, _), (2, _), (3, _)] _ _ rfl ?_)
  clear hK K
  refine W.seq ?_
  refine W.sR [1, 2, 3, 13] fun K hK => ?_
  refine st rfl rfl (e_loadA t30 rfl rfl (by repeat (first | exact look_same | assumption | refine look_ne (by omega) ?_)) rfl rfl) ?_
  refine st rfl rfl (e_move rfl) ?_
  refine st rfl rfl (e_move rfl) ?_
  refine st rfl rfl (e_buildSlice rfl rfl (bsl40_1 rfl)) ?_
  refine stC rfl rfl rfl (impl_isTop_s _ _ _ _ _ _ _ _ _ [p] _ _ (by repeat (first | exact look_same | assumption | refine look_ne (by omega) ?_)) (by omega) (by repeat (first | exact look_same | assumption | refine look_ne (by omega) ?_)) (by simp)) ?_
  rw [topB_one_no hno]
  refine st rfl rfl (e_not rfl) ?_
  refine stEnd (hK _ [(1, _), (2, _), (3, _), (13, _)] _ _ rfl ?_)
  clear hK K
  refine W.condT rfl ?_
  refine W.sR [6, 7] fun K hK => ?_
  refine st rfl rfl (e_assign rfl) ?_
  refine st rfl rfl (e_assign rfl) ?_
  refine stEnd (hK _ [(6, _), (7, _)] _ _ rfl ?_)
  clear hK K
  refine W.ret ?_
  refine thenR ?_
  refine ⟨.inr rfl, Ends.v0 (by repeat (first | exact self_old | assumption | refine set_old ?_ (by omega))) hfresh (by first | rfl | (simp [ltT, ltA, ltC, ltV]; try omega)) (res2 (resT rfl) (resT rfl) rfl rfl) ?_⟩
  rfl
theorem laws_eqIntS_nil_s (c : Nat) (H : Heap) (n : Nat) : Fn Try.prog 29 [.slice none 0 0, .slice (some ⟨c, 0, none⟩) 0 1] H n (.bool true) (H) (n) := by
  refine Fn.intro' Try.func29 rfl (by kernel_rfl) Try.ntmps29 (by simp) (by omega) fun hfresh => ?_
  show W _ _ _ ⟨[(0, _), (1, _)], _, _⟩ _
  refine W.sR [0, 1] fun K hK => ?_
  refine st rfl rfl (e_assign rfl) ?_
  refine stEnd (hK _ [(0, _), (1, _)] _ _ rfl ?_)
  clear hK K
  refine W.seq ?_
  refine W.sR [0, 1, 10] fun K hK => ?_
  refine st rfl rfl (e_move rfl) ?_
  refine st rfl rfl (e_len t40 rfl) ?_
  refine st rfl rfl (e_move rfl) ?_
  refine st rfl rfl (e_len t40 rfl) ?_
  refine st rfl rfl (e_neq rfl rfl) ?_
  refine stB (fun hz => ?_) (fun hz => ?_)
  ·
    exact absurd hz (by simp)
  ·
    try simp only [decide_eq_true_eq, decide_eq_false_iff_not, Bool.not_eq_true', Bool.not_eq_false', Bool.not_eq_true, Bool.not_eq_false] at hz
    refine stEnd (hK _ [(0, _), (1, _), (10, _)] _ _ rfl ?_)
    clear hK K
    refine W.condF rfl ?_
    refine W.skip ?_
    refine thenN ?_
    refine W.seq ?_
    refine W.sR [0, 1, 5] fun K hK => ?_
    refine st rfl rfl (e_assign rfl) ?_
    refine stEnd (hK _ [(0, _), (1, _), (5, _)] _ _ rfl ?_)
    clear hK K
    refine W.block ?_
    refine W.ord [5, 0, 1] (ts' := [(5, _)] ++ [(0, _), (1, _)]) rfl ?_
    refine W.loopC [(5, _)] [] (fun κ V G μ => V = [(5, .int .i64 0)] ∧ κ = 0) _ ⟨rfl, rfl⟩ fun κ V G μ hinv hμ hkeep hfr => ?_
    obtain ⟨rfl, rfl⟩ := hinv
    refine W.seq ?_
    refine W.sR [0, 1, 5, 14] fun K hK => ?_
    refine st rfl rfl (e_move rfl) ?_
    refine st rfl rfl (e_move rfl) ?_
    refine st rfl rfl (e_len t40 rfl) ?_
    refine st rfl rfl (e_lss rfl rfl) ?_
    refine stB (fun hz => ?_) (fun hz => ?_)
    ·
      exact absurd hz (by simp)
    ·
      try simp only [decide_eq_true_eq, decide_eq_false_iff_not, Bool.not_eq_true', Bool.not_eq_false', Bool.not_eq_true, Bool.not_eq_false] at hz
      refine stEnd (hK _ [(0, _), (1, _), (5, _), (14, _)] _ _ rfl ?_)
      clear hK K
      refine W.condF rfl ?_
      refine W.exit ?_
      refine thenE ?_
      refine thenE ?_
      refine blockX ?_
      refine thenN ?_
      refine W.sR [4] fun K hK => ?_
      refine st rfl rfl (e_assign rfl) ?_
      refine stEnd (hK _ [(4, _)] _ _ rfl ?_)
      clear hK K
      refine W.ret ?_
      refine ⟨.inr rfl, Ends.v0 (by repeat (first | exact self_old | assumption | refine set_old ?_ (by omega) | refine keep_old (by assumption) ?_ (by omega) (by simp; try omega))) hfresh (by first | rfl | (simp [ltT, ltA, ltC, ltV]; try omega)) (res1 (resT rfl) rfl) ?_⟩
      rfl
theorem laws_markIntS_nil_s (k : Int) (H : Heap) (n : Nat) : Fn Try.prog 46 [.slice none 0 0, .int .i64 k] H n (.int .i64 k) (H) (n) := by
  refine Fn.intro' Try.func46 rfl (by kernel_rfl) Try.ntmps46 (by simp) (by omega) fun hfresh => ?_
  show W _ _ _ ⟨[(0, _), (1, _)], _, _⟩ _
  refine W.sR [0, 1] fun K hK => ?_
  refine st rfl rfl (e_assign rfl) ?_
  refine stEnd (hK _ [(0, _), (1, _)] _ _ rfl ?_)
  clear hK K
  refine W.seq ?_
  refine W.sR [0, 1, 5] fun K hK => ?_
  refine st rfl rfl (e_assign rfl) ?_
  refine stEnd (hK _ [(0, _), (1, _), (5, _)] _ _ rfl ?_)
  clear hK K
  refine W.block ?_
  refine W.ord [1, 5, 0] (ts' := [(1, _), (5, _)] ++ [(0, _)]) rfl ?_
  refine W.loopC [(1, _), (5, _)] [] (fun κ V G μ => V = [(1, .int .i64 k), (5, .int .i64 0)] ∧ κ = 0) _ ⟨rfl, rfl⟩ fun κ V G μ hinv hμ hkeep hfr => ?_
  obtain ⟨rfl, rfl⟩ := hinv
  refine W.seq ?_
  refine W.sR [0, 1, 5, 9] fun K hK => ?_
  refine st rfl rfl (e_move rfl) ?_
  refine st rfl rfl (e_move rfl) ?_
  refine st rfl rfl (e_len t40 rfl) ?_
  refine st rfl rfl (e_lss rfl rfl) ?_
  refine stB (fun hz => ?_) (fun hz => ?_)
  ·
    exact absurd hz (by simp)
  ·
    try simp only [decide_eq_true_eq, decide_eq_false_iff_not, Bool.not_eq_true', Bool.not_eq_false', Bool.not_eq_true, Bool.not_eq_false] at hz
    refine stEnd (hK _ [(0, _), (1, _), (5, _), (9, _)] _ _ rfl ?_)
    clear hK K
    refine W.condF rfl ?_
    refine W.exit ?_
    refine thenE ?_
    refine thenE ?_
    refine blockX ?_
    refine thenN ?_
    refine W.sR [4] fun K hK => ?_
    refine st rfl rfl (e_move rfl) ?_
    refine st rfl rfl (e_assign rfl) ?_
    refine stEnd (hK _ [(4, _)] _ _ rfl ?_)
    clear hK K
    refine W.ret ?_
    refine ⟨.inr rfl, Ends.v0 (by repeat (first | exact self_old | assumption | refine set_old ?_ (by omega) | refine keep_old (by assumption) ?_ (by omega) (by simp; try omega))) hfresh (by first | rfl | (simp [ltT, ltA, ltC, ltV]; try omega)) (res1 (resT rfl) rfl) ?_⟩
    rfl
theorem laws_heldIntS_nil_s (k : Int) (H : Heap) (n : Nat) : Fn Try.prog 47 [.slice none 0 0, .int .i64 k] H n (.int .i64 k) (H) (n) := by
  refine Fn.intro' Try.func47 rfl (by kernel_rfl) Try.ntmps47 (by simp) (by omega) fun hfresh => ?_
  show W _ _ _ ⟨[(0, _), (1, _)], _, _⟩ _
  refine W.sR [0, 1] fun K hK => ?_
  refine st rfl rfl (e_assign rfl) ?_
  refine stEnd (hK _ [(0, _), (1, _)] _ _ rfl ?_)
  clear hK K
  refine W.seq ?_
  refine W.sR [0, 1, 5] fun K hK => ?_
  refine st rfl rfl (e_assign rfl) ?_
  refine stEnd (hK _ [(0, _), (1, _), (5, _)] _ _ rfl ?_)
  clear hK K
  refine W.block ?_
  refine W.ord [1, 5, 0] (ts' := [(1, _), (5, _)] ++ [(0, _)]) rfl ?_
  refine W.loopC [(1, _), (5, _)] [] (fun κ V G μ => V = [(1, .int .i64 k), (5, .int .i64 0)] ∧ κ = 0) _ ⟨rfl, rfl⟩ fun κ V G μ hinv hμ hkeep hfr => ?_
  obtain ⟨rfl, rfl⟩ := hinv
  refine W.seq ?_
  refine W.sR [0, 1, 5, 9] fun K hK => ?_
  refine st rfl rfl (e_move rfl) ?_
  refine st rfl rfl (e_move rfl) ?_
  refine st rfl rfl (e_len t40 rfl) ?_
  refine st rfl rfl (e_lss rfl rfl) ?_
  refine stB (fun hz => ?_) (fun hz => ?_)
  ·
    exact absurd hz (by simp)
  ·
    try simp only [decide_eq_true_eq, decide_eq_false_iff_not, Bool.not_eq_true', Bool.not_eq_false', Bool.not_eq_true, Bool.not_eq_false] at hz
    refine stEnd (hK _ [(0, _), (1, _), (5, _), (9, _)] _ _ rfl ?_)
    clear hK K
    refine W.condF rfl ?_
    refine W.exit ?_
    refine thenE ?_
    refine thenE ?_
    refine blockX ?_
    refine thenN ?_
    refine W.sR [4] fun K hK => ?_
    refine st rfl rfl (e_move rfl) ?_
    refine st rfl rfl (e_assign rfl) ?_
    refine stEnd (hK _ [(4, _)] _ _ rfl ?_)
    clear hK K
    refine W.ret ?_
    refine ⟨.inr rfl, Ends.v0 (by repeat (first | exact self_old | assumption | refine set_old ?_ (by omega) | refine keep_old (by assumption) ?_ (by omega) (by simp; try omega))) hfresh (by first | rfl | (simp [ltT, ltA, ltC, ltV]; try omega)) (res1 (resT rfl) rfl) ?_⟩
    rfl
theorem laws_FnExactStepColumns_no (X Y Z : Int) (sv : Value) (cs : List C) (r : Nat) (p s : Int) (H : Heap) (n : Nat) (hr : RowC H r sv cs) (hrn : r ≤ n) (hlen : cs.length ≤ 1048576) (hno : (isHeap X Y Z cs && within p 0 (X * Y - 1) && decide (0 ≤ s)) = false) : Fn Try.prog 11 [.agg #[.int .i64 X, .int .i64 Y, .int .i64 Z, sv], .int .i64 p, .int .i64 s] H n (.bool true) (H) (n) := by
  refine Fn.intro' Try.func11 rfl (by kernel_rfl) Try.ntmps11 (by simp) (by omega) fun hfresh => ?_
  obtain ⟨sp0, se0, rfl⟩ := hr.form
  show W _ _ _ ⟨[(0, _), (1, _), (2, _)], _, _⟩ _
  refine W.sR [1, 2, 3] fun K hK => ?_
  refine st rfl rfl (e_boxA rfl) ?_
  refine st rfl rfl (e_assign rfl) ?_
  refine stEnd (hK _ [(1, _), (2, _), (3, _)] _ _ rfl ?_)
  clear hK K
  refine W.sR [1, 2, 3, 7] fun K hK => ?_
  refine st rfl rfl (e_assign rfl) ?_
  refine stEnd (hK _ [(1, _), (2, _), (3, _), (7, _)] _ _ rfl ?_)
  clear hK K
  refine W.sR [1, 2, 3, 7] fun K hK => ?_
  refine st rfl rfl (e_loadA t24 rfl rfl (by repeat (first | exact look_same | assumption | refine look_ne (by omega) ?_)) rfl rfl) ?_
  refine st rfl rfl (e_move rfl) ?_
  refine stC rfl rfl rfl (laws_szHeap_s _ _ _ _ _ _ _ _ _ (by omega)) ?_
  rw [if_neg (by omega)]
  refine st rfl rfl (e_assign rfl) ?_
  refine stEnd (hK _ [(1, _), (2, _), (3, _), (7, _)] _ _ rfl ?_)
  clear hK K
  refine W.seq ?_
  refine W.sR [1, 2, 3, 22] fun K hK => ?_
  refine st rfl rfl (e_move rfl) ?_
  refine st rfl rfl (e_lss rfl rfl) ?_
  refine stB (fun hz => ?_) (fun hz => ?_)
  ·
    first | (have hz2 := of_decide_eq_true hz; omega) | (simp at hz; done) | (simp at hz; omega)
  ·
    try simp only [decide_eq_true_eq, decide_eq_false_iff_not, Bool.not_eq_true', Bool.not_eq_false', Bool.not_eq_true, Bool.not_eq_false] at hz
    refine stEnd (hK _ [(1, _), (2, _), (3, _), (22, _)] _ _ rfl ?_)
    clear hK K
    refine W.condF rfl ?_
    refine W.skip ?_
    refine thenN ?_
    refine W.sR [1, 2, 3, 8, 9] fun K hK => ?_
    refine st rfl rfl (e_loadA t24 rfl rfl (by repeat (first | exact look_same | assumption | refine look_ne (by omega) ?_)) rfl rfl) ?_
    refine stC rfl rfl rfl (laws_toHeap_s _ _ _ _ _ _ _ _ (RowC.keep hr (Nat.le_refl _) (by repeat (first | exact self_old | assumption | refine set_old ?_ (by omega)))) (by omega) (by omega)) ?_
    refine st rfl rfl (e_move rfl) ?_
    refine st rfl rfl (e_move rfl) ?_
    refine stC rfl rfl rfl (spec_StepColumns_no_s _ _ _ _ _ _ _ _ _ _ (by repeat (first | exact look_same | assumption | refine look_ne (by omega) ?_)) (by omega) (by assumption)) ?_
    refine st rfl rfl (e_move rfl) ?_
    refine st rfl rfl (e_extract rfl rfl) ?_
    refine st rfl rfl (e_extract rfl rfl) ?_
    refine st rfl rfl (e_assign rfl) ?_
    refine st rfl rfl (e_assign rfl) ?_
    refine stEnd (hK _ [(1, _), (2, _), (3, _), (8, _), (9, _)] _ _ rfl ?_)
    clear hK K
    refine W.sR [1, 2, 3, 8, 9, 10] fun K hK => ?_
    refine st rfl rfl (e_loadA t24 rfl rfl (by repeat (first | exact look_same | assumption | refine look_ne (by omega) ?_)) rfl rfl) ?_
    refine stC rfl rfl rfl (laws_toHeap_s _ _ _ _ _ _ _ _ (RowC.keep hr (Nat.le_refl _) (by repeat (first | exact self_old | assumption | refine set_old ?_ (by omega)))) (by omega) (by omega)) ?_
    refine st rfl rfl (e_alloc t30 rfl) ?_
    refine stN rfl (e_storeA t30 rfl rfl (by repeat (first | exact look_same | assumption | refine look_ne (by omega) ?_)) rfl rfl rfl (by decide)) ?_
    refine stEnd (hK _ [(1, _), (2, _), (3, _), (8, _), (9, _), (10, _)] _ _ rfl ?_)
    clear hK K
    refine W.sR [1, 2, 3, 8, 9, 10, 11, 12] fun K hK => ?_
    refine st rfl rfl (e_loadA t30 rfl rfl (by repeat (first | exact look_same | assumption | refine look_ne (by omega) ?_)) rfl rfl) ?_
    refine st rfl rfl (e_move rfl) ?_
    refine st rfl rfl (e_move rfl) ?_
    refine stC rfl rfl rfl (impl_StepColumns_no_s _ _ _ _ _ _ _ _ _ _ (by repeat (first | exact look_same | assumption | refine look_ne (by omega) ?_)) (by omega) (by assumption)) ?_
    refine st rfl rfl (e_move rfl) ?_
    refine st rfl rfl (e_extract rfl rfl) ?_
    refine st rfl rfl (e_extract rfl rfl) ?_
    refine st rfl rfl (e_assign rfl) ?_
    refine st rfl rfl (e_assign rfl) ?_
    refine stEnd (hK _ [(1, _), (2, _), (3, _), (8, _), (9, _), (10, _), (11, _), (12, _)] _ _ rfl ?_)
    clear hK K
    refine W.seq ?_
    refine W.sR [1, 2, 3, 8, 9, 10, 11, 12, 48] fun K hK => ?_
    refine st rfl rfl (e_move rfl) ?_
    refine st rfl rfl (e_move rfl) ?_
    refine stC rfl rfl rfl (laws_eqIntS_nil_s _ _ _ ) ?_
    refine st rfl rfl (e_not rfl) ?_
    refine st rfl rfl (e_move rfl) ?_
    refine st rfl rfl (e_move rfl) ?_
    refine st rfl rfl (e_move rfl) ?_
    refine st rfl rfl (e_neqB_same t4 rfl rfl) ?_
    refine st rfl rfl (e_pickF rfl rfl) ?_
    refine stEnd (hK _ [(1, _), (2, _), (3, _), (8, _), (9, _), (10, _), (11, _), (12, _), (48, _)] _ _ rfl ?_)
    clear hK K
    refine W.condF rfl ?_
    refine W.skip ?_
    refine thenN ?_
    refine W.seq ?_
    refine W.sD [1, 2, 3, 8, 9, 10, 11, 12, 53] [0, 0, 2, 7, 15] (by kernel_rfl) (by kernel_rfl) fun K hK => ?_
    refine dL rfl rfl rfl (by omega) (accB_ok rfl) (e_loadA t30 rfl rfl (by repeat (first | exact look_same | assumption | refine look_ne (by omega) ?_)) rfl rfl) ?_
    refine dL rfl rfl rfl (by omega) (accB_ok rfl) (e_loadA t24 rfl rfl (by repeat (first | exact look_same | assumption | refine look_ne (by omega) ?_)) rfl rfl) ?_
    refine dC1 rfl rfl rfl rfl (laws_toHeap_s _ _ _ _ _ _ _ _ (RowC.keep hr (Nat.le_refl _) (by repeat (first | exact self_old | assumption | refine set_old ?_ (by omega) | refine hide_old ?_ (by omega) (by first | exact List.not_mem_nil | (simp [hidden, Nat.testBit]; done) | (simp [hidden, Nat.testBit]; omega))))) (by omega) (by omega)) (by repeat (first | exact trivial | refine And.intro (Or.inl rfl) ?_ | refine And.intro (Or.inr trivial) ?_ | refine And.intro (Or.inr (And.intro (Or.inl (by omega)) (by first | (simp; done) | (simp; omega)))) ?_ | refine And.intro (Or.inr (And.intro (Or.inr (by omega)) (by first | (simp; done) | (simp; omega)))) ?_ | refine And.intro (Or.inr (by simp [compat]; try omega)) ?_)) (by first | exact List.not_mem_nil | (simp [hidden, Nat.testBit]; done) | (simp [hidden, Nat.testBit]; omega)) ?_
    refine dC rfl rfl rfl rfl (laws_eqHeap_s _ _ _ _ _ _ _ _ _ _ _ _ _ _ (by repeat (first | exact look_same | assumption | refine look_ne (by omega) ?_ | refine look_hide (by omega) (by first | exact List.not_mem_nil | (simp [hidden, Nat.testBit]; done) | (simp [hidden, Nat.testBit]; omega)) ?_)) (by repeat (first | exact look_same | assumption | refine look_ne (by omega) ?_ | refine look_hide (by omega) (by first | exact List.not_mem_nil | (simp [hidden, Nat.testBit]; done) | (simp [hidden, Nat.testBit]; omega)) ?_)) (by omega)) (accB_ok rfl) ?_
    rw [decide_eq_true (by simp)]
    refine dP rfl rfl rfl (e_not rfl) ?_
    refine dEnd (hK _ [(1, _), (2, _), (3, _), (8, _), (9, _), (10, _), (11, _), (12, _), (53, _)] _ _ rfl ?_)
    clear hK K
    refine W.condF rfl ?_
    refine W.skip ?_
    refine thenN ?_
    refine W.sR [1, 2, 3, 8, 9, 10, 11, 12, 13] fun K hK => ?_
    refine st rfl rfl (e_assign rfl) ?_
    refine stEnd (hK _ [(1, _), (2, _), (3, _), (8, _), (9, _), (10, _), (11, _), (12, _), (13, _)] _ _ rfl ?_)
    clear hK K
    refine W.sR [1, 2, 3, 8, 9, 11, 12, 13] fun K hK => ?_
    refine st rfl rfl (e_loadA t30 rfl rfl (by repeat (first | exact look_same | assumption | refine look_ne (by omega) ?_)) rfl rfl) ?_
    refine st rfl rfl (e_move rfl) ?_
    refine stC rfl rfl rfl (laws_markHeap_s _ _ _ _ _ _ _ _ _ (by repeat (first | exact look_same | assumption | refine look_ne (by omega) ?_)) (by first | (rw [flat_length]; omega) | simp | omega) (by first | assumption | exact ints_plain _ | exact flat_plain _) (by omega)) ?_
    rw [markV_flat]
    refine st rfl rfl (e_assign rfl) ?_
    refine stEnd (hK _ [(1, _), (2, _), (3, _), (8, _), (9, _), (11, _), (12, _), (13, _)] _ _ rfl ?_)
    clear hK K
    refine W.seq ?_
    refine W.sR [1, 2, 3, 8, 9, 11, 69] fun K hK => ?_
    refine st rfl rfl (e_move rfl) ?_
    refine st rfl rfl (e_lss rfl rfl) ?_
    refine st rfl rfl (e_move rfl) ?_
    refine stB (fun hb2 => ?_) (fun hb2 => ?_)
    ·
      try simp only [decide_eq_true_eq, decide_eq_false_iff_not, Bool.not_eq_true', Bool.not_eq_false', Bool.not_eq_true, Bool.not_eq_false] at hb2
      refine stS rfl rfl ?_
      refine stS rfl rfl ?_
      refine stS rfl rfl ?_
      refine stS rfl rfl ?_
      refine st rfl rfl (e_pickT rfl rfl) ?_
      refine st rfl rfl (e_move rfl) ?_
      refine stS rfl rfl ?_
      refine stS rfl rfl ?_
      refine stS rfl rfl ?_
      refine st rfl rfl (e_pickT rfl rfl) ?_
      refine stEnd (hK _ [(1, _), (2, _), (3, _), (8, _), (9, _), (11, _), (69, _)] _ _ rfl ?_)
      clear hK K
      refine W.condT rfl ?_
      refine W.sR [6] fun K hK => ?_
      refine st rfl rfl (e_assign rfl) ?_
      refine stEnd (hK _ [(6, _)] _ _ rfl ?_)
      clear hK K
      refine W.ret ?_
      refine thenR ?_
      refine ⟨.inr rfl, Ends.v0 (by repeat (first | exact self_old | assumption | refine set_old ?_ (by omega))) hfresh (by first | rfl | (simp [ltT, ltA, ltC, ltV]; try omega)) (res1 (resT rfl) rfl) ?_⟩
      first | rfl | (exfalso; omega)
    ·
      try simp only [decide_eq_true_eq, decide_eq_false_iff_not, Bool.not_eq_true', Bool.not_eq_false', Bool.not_eq_true, Bool.not_eq_false] at hb2
      refine st rfl rfl (e_move rfl) ?_
      refine st rfl rfl (e_move rfl) ?_
      refine stC rfl rfl rfl (laws_eqIntS_nil_s _ _ _ ) ?_
      refine st rfl rfl (e_not rfl) ?_
      refine st rfl rfl (e_pickF rfl rfl) ?_
      refine st rfl rfl (e_move rfl) ?_
      refine st rfl rfl (e_move rfl) ?_
      refine st rfl rfl (e_move rfl) ?_
      refine st rfl rfl (e_neqB_same t4 rfl rfl) ?_
      refine st rfl rfl (e_pickF rfl rfl) ?_
      refine stEnd (hK _ [(1, _), (2, _), (3, _), (8, _), (9, _), (11, _), (69, _)] _ _ rfl ?_)
      clear hK K
      refine W.condF rfl ?_
      refine W.skip ?_
      refine thenN ?_
      refine W.sR [1, 2, 3, 8, 9, 11, 14] fun K hK => ?_
      refine st rfl rfl (e_assign rfl) ?_
      refine stEnd (hK _ [(1, _), (2, _), (3, _), (8, _), (9, _), (11, _), (14, _)] _ _ rfl ?_)
      clear hK K
      refine W.sR [1, 2, 3, 8, 9, 11, 14] fun K hK => ?_
      refine st rfl rfl (e_move rfl) ?_
      refine st rfl rfl (e_move rfl) ?_
      refine stC rfl rfl rfl (laws_markIntS_nil_s _ _ _ ) ?_
      refine st rfl rfl (e_assign rfl) ?_
      refine stEnd (hK _ [(1, _), (2, _), (3, _), (8, _), (9, _), (11, _), (14, _)] _ _ rfl ?_)
      clear hK K
      refine W.sR [1, 2, 3, 8, 9, 11, 14, 15] fun K hK => ?_
      refine st rfl rfl (e_assign rfl) ?_
      refine stEnd (hK _ [(1, _), (2, _), (3, _), (8, _), (9, _), (11, _), (14, _), (15, _)] _ _ rfl ?_)
      clear hK K
      refine W.sR [1, 2, 3, 8, 9, 11, 14, 15] fun K hK => ?_
      refine st rfl rfl (e_move rfl) ?_
      refine st rfl rfl (e_move rfl) ?_
      refine stC rfl rfl rfl (laws_heldIntS_nil_s _ _ _ ) ?_
      refine st rfl rfl (e_assign rfl) ?_
      refine stEnd (hK _ [(1, _), (2, _), (3, _), (8, _), (9, _), (11, _), (14, _), (15, _)] _ _ rfl ?_)
      clear hK K
      refine W.seq ?_
      refine W.sR [1, 2, 3, 8, 9, 11, 14, 15, 77] fun K hK => ?_
      refine st rfl rfl (e_move rfl) ?_
      refine st rfl rfl (e_lss rfl rfl) ?_
      refine stB (fun hz => ?_) (fun hz => ?_)
      ·
        first | (have hz2 := of_decide_eq_true hz; omega) | (simp at hz; done) | (simp at hz; omega)
      ·
        try simp only [decide_eq_true_eq, decide_eq_false_iff_not, Bool.not_eq_true', Bool.not_eq_false', Bool.not_eq_true, Bool.not_eq_false] at hz
        refine stEnd (hK _ [(1, _), (2, _), (3, _), (8, _), (9, _), (11, _), (14, _), (15, _), (77, _)] _ _ rfl ?_)
        clear hK K
        refine W.condF rfl ?_
        refine W.skip ?_
        refine thenN ?_
        refine W.seq ?_
        refine W.sR [1, 2, 3, 8, 9, 11, 14, 80] fun K hK => ?_
        refine st rfl rfl (e_move rfl) ?_
        refine st rfl rfl (e_move rfl) ?_
        refine st rfl rfl (e_neq rfl rfl) ?_
        refine stB (fun hz => ?_) (fun hz => ?_)
        ·
          first | (have hz2 := of_decide_eq_true hz; omega) | (simp at hz; done) | (simp at hz; omega)
        ·
          try simp only [decide_eq_true_eq, decide_eq_false_iff_not, Bool.not_eq_true', Bool.not_eq_false', Bool.not_eq_true, Bool.not_eq_false] at hz
          refine stEnd (hK _ [(1, _), (2, _), (3, _), (8, _), (9, _), (11, _), (14, _), (80, _)] _ _ rfl ?_)
          clear hK K
          refine W.condF rfl ?_
          refine W.skip ?_
          refine thenN ?_
          refine W.sR [8, 9, 11, 14, 16, 17] fun K hK => ?_
          refine st rfl rfl (e_loadA t24 rfl rfl (by repeat (first | exact look_same | assumption | refine look_ne (by omega) ?_)) rfl rfl) ?_
          refine stC rfl rfl rfl (laws_toHeap_s _ _ _ _ _ _ _ _ (RowC.keep hr (Nat.le_refl _) (by repeat (first | exact self_old | assumption | refine set_old ?_ (by omega)))) (by omega) (by omega)) ?_
          refine st rfl rfl (e_move rfl) ?_
          refine st rfl rfl (e_move rfl) ?_
          refine stC rfl rfl rfl (impl_StepColumns_no_s _ _ _ _ _ _ _ _ _ _ (by repeat (first | exact look_same | assumption | refine look_ne (by omega) ?_)) (by omega) (by assumption)) ?_
          refine st rfl rfl (e_move rfl) ?_
          refine st rfl rfl (e_extract rfl rfl) ?_
          refine st rfl rfl (e_extract rfl rfl) ?_
          refine st rfl rfl (e_assign rfl) ?_
          refine st rfl rfl (e_assign rfl) ?_
          refine stEnd (hK _ [(8, _), (9, _), (11, _), (14, _), (16, _), (17, _)] _ _ rfl ?_)
          clear hK K
          refine W.seq ?_
          refine W.sR [11, 14, 97] fun K hK => ?_
          refine st rfl rfl (e_move rfl) ?_
          refine st rfl rfl (e_move rfl) ?_
          refine stC rfl rfl rfl (laws_eqIntS_nil_s _ _ _ ) ?_
          refine st rfl rfl (e_not rfl) ?_
          refine st rfl rfl (e_move rfl) ?_
          refine st rfl rfl (e_move rfl) ?_
          refine st rfl rfl (e_move rfl) ?_
          refine st rfl rfl (e_neqB_same t4 rfl rfl) ?_
          refine st rfl rfl (e_pickF rfl rfl) ?_
          refine stEnd (hK _ [(11, _), (14, _), (97, _)] _ _ rfl ?_)
          clear hK K
          refine W.condF rfl ?_
          refine W.skip ?_
          refine thenN ?_
          refine W.sR [11, 14, 15] fun K hK => ?_
          refine st rfl rfl (e_assign rfl) ?_
          refine stEnd (hK _ [(11, _), (14, _), (15, _)] _ _ rfl ?_)
          clear hK K
          refine W.sR [14, 15] fun K hK => ?_
          refine st rfl rfl (e_move rfl) ?_
          refine st rfl rfl (e_move rfl) ?_
          refine stC rfl rfl rfl (laws_heldIntS_nil_s _ _ _ ) ?_
          refine st rfl rfl (e_assign rfl) ?_
          refine stEnd (hK _ [(14, _), (15, _)] _ _ rfl ?_)
          clear hK K
          refine W.seq ?_
          refine W.sR [14, 15, 102] fun K hK => ?_
          refine st rfl rfl (e_move rfl) ?_
          refine st rfl rfl (e_lss rfl rfl) ?_
          refine stB (fun hz => ?_) (fun hz => ?_)
          ·
            first | (have hz2 := of_decide_eq_true hz; omega) | (simp at hz; done) | (simp at hz; omega)
          ·
            try simp only [decide_eq_true_eq, decide_eq_false_iff_not, Bool.not_eq_true', Bool.not_eq_false', Bool.not_eq_true, Bool.not_eq_false] at hz
            refine stEnd (hK _ [(14, _), (15, _), (102, _)] _ _ rfl ?_)
            clear hK K
            refine W.condF rfl ?_
            refine W.skip ?_
            refine thenN ?_
            refine W.seq ?_
            refine W.sR [105] fun K hK => ?_
            refine st rfl rfl (e_move rfl) ?_
            refine st rfl rfl (e_move rfl) ?_
            refine st rfl rfl (e_neq rfl rfl) ?_
            refine stB (fun hz => ?_) (fun hz => ?_)
            ·
              first | (have hz2 := of_decide_eq_true hz; omega) | (simp at hz; done) | (simp at hz; omega)
            ·
              try simp only [decide_eq_true_eq, decide_eq_false_iff_not, Bool.not_eq_true', Bool.not_eq_false', Bool.not_eq_true, Bool.not_eq_false] at hz
              refine stEnd (hK _ [(105, _)] _ _ rfl ?_)
              clear hK K
              refine W.condF rfl ?_
              refine W.skip ?_
              refine thenN ?_
              refine W.sR [6] fun K hK => ?_
              refine st rfl rfl (e_assign rfl) ?_
              refine stEnd (hK _ [(6, _)] _ _ rfl ?_)
              clear hK K
              refine W.ret ?_
              refine ⟨.inr rfl, Ends.v0 (by repeat (first | exact self_old | assumption | refine set_old ?_ (by omega))) hfresh (by first | rfl | (simp [ltT, ltA, ltC, ltV]; try omega)) (res1 (resT rfl) rfl) ?_⟩
              first | rfl | (exfalso; omega)
theorem laws_FnExactStepColumns_big (X Y Z : Int) (sv : Value) (cs : List C) (r : Nat) (p s : Int) (H : Heap) (n : Nat) (hr : RowC H r sv cs) (hrn : r ≤ n) (hlen : ¬ cs.length ≤ 1048576) (hmax : cs.length ≤ 9223372036854775807) : Fn Try.prog 11 [.agg #[.int .i64 X, .int .i64 Y, .int .i64 Z, sv], .int .i64 p, .int .i64 s] H n (.bool true) (H) (n) := by
  refine Fn.intro' Try.func11 rfl (by kernel_rfl) Try.ntmps11 (by simp) (by omega) fun hfresh => ?_
  obtain ⟨sp0, se0, rfl⟩ := hr.form
  show W _ _ _ ⟨[(0, _), (1, _), (2, _)], _, _⟩ _
  refine W.sR [1, 2, 3] fun K hK => ?_
  refine st rfl rfl (e_boxA rfl) ?_
  refine st rfl rfl (e_assign rfl) ?_
  refine stEnd (hK _ [(1, _), (2, _), (3, _)] _ _ rfl ?_)
  clear hK K
  refine W.sR [1, 2, 3, 7] fun K hK => ?_
  refine st rfl rfl (e_assign rfl) ?_
  refine stEnd (hK _ [(1, _), (2, _), (3, _), (7, _)] _ _ rfl ?_)
  clear hK K
  refine W.sR [1, 2, 3, 7] fun K hK => ?_
  refine st rfl rfl (e_loadA t24 rfl rfl (by repeat (first | exact look_same | assumption | refine look_ne (by omega) ?_)) rfl rfl) ?_
  refine st rfl rfl (e_move rfl) ?_
  refine stC rfl rfl rfl (laws_szHeap_s _ _ _ _ _ _ _ _ _ (by omega)) ?_
  rw [if_pos (by omega)]
  refine st rfl rfl (e_assign rfl) ?_
  refine stEnd (hK _ [(1, _), (2, _), (3, _), (7, _)] _ _ rfl ?_)
  clear hK K
  refine W.seq ?_
  refine W.sR [1, 2, 3, 22] fun K hK => ?_
  refine st rfl rfl (e_move rfl) ?_
  refine st rfl rfl (e_lss rfl rfl) ?_
  refine stB (fun hz => ?_) (fun hz => ?_)
  ·
    try simp only [decide_eq_true_eq, decide_eq_false_iff_not, Bool.not_eq_true', Bool.not_eq_false', Bool.not_eq_true, Bool.not_eq_false] at hz
    refine stEnd (hK _ [(1, _), (2, _), (3, _), (22, _)] _ _ rfl ?_)
    clear hK K
    refine W.condT rfl ?_
    refine W.sR [6] fun K hK => ?_
    refine st rfl rfl (e_assign rfl) ?_
    refine stEnd (hK _ [(6, _)] _ _ rfl ?_)
    clear hK K
    refine W.ret ?_
    refine thenR ?_
    refine ⟨.inr rfl, Ends.v0 (by repeat (first | exact self_old | assumption | refine set_old ?_ (by omega))) hfresh (by first | rfl | (simp [ltT, ltA, ltC, ltV]; try omega)) (res1 (resT rfl) rfl) ?_⟩
    rfl
  ·
    first | (simp at hz; done) | (simp at hz; omega)
end Go.Sep.Walks
