/- Part of a proof: what functions of the program do. -/
import Derived.Test.YtcpjfjdlifjbhaaXj
import Derived.Test.YtcpjfjdlifjbhaaXaso
namespace Go.Proofs.Ytcpjfjdlifjbhaa.X
open Go Go.AM Go.Proofs
attribute [local go_sem ↓] w_skip w_lbl w_ops w_draw w_pre w_post w_alt w_seq w_cond w_block w_loop w_exit w_ret w_scope w_rfunc l_nil l_cons th_n th_e th_r bk_n bk_r bk_e t_nil t_it t_call i_nil i_one i_grp s_nil s_cons c_call e_mv e_nil e_frz o_mov o_bin o_eq o_un o_conv o_len o_slen o_idx o_aix o_fad o_load o_store o_boxp o_boxo o_boxm o_alloc o_alloca o_nilarr o_build o_bslp o_bslo o_slc o_sslc o_slc3 o_sidx o_mkfn o_ext o_pick o_callf o_callb o_appd o_clear o_mxn o_field o_nilc o_make o_buildm o_boxg o_mkif o_tass o_eqs o_callo k_int k_str k_bool k_grb k_grt k_some k_none k_arr k_lens k_lenf k_lenh k_idxs k_idxf k_idxh k_ld k_loadp k_loadr k_loade k_storer k_storee k_oin k_ois k_slcs k_slcf k_slch k_slc3s k_slc3f k_slc3h k_app2 k_apps k_appf k_apph k_cals k_cald k_cali k_cnb k_cna k_esn k_esc k_efn k_efc k_esh b_add b_sub b_mul b_quo b_rem b_and b_or b_xor b_andNot b_eql b_neq b_lss b_leq b_gtr b_geq b_shl b_shr b_seq b_sne b_slt b_sad q_bool q_str q_nil q_nilf u_not u_neg u_xor f_ret f_nor v_r v_c v_reg v_ob v_set v_put v_so v_sn v_pn v_pc g_nil d_nil p_nil m_mv m_fr z_nil z_cons z_an z_ac g_cons d_cons p_cons y_mov y_bin y_eq y_un y_conv y_len y_slen y_idx y_aix y_fad y_load y_store y_boxp y_boxo y_boxm y_alloc y_alloca y_nilarr y_build y_bslp y_bslo y_slc y_sslc y_slc3 y_sidx y_mkfn y_ext y_pick y_callf y_callb y_appd y_clear y_mxn y_field y_nilc y_make y_buildm y_boxg y_mkif y_tass y_eqs y_callo nb_if
attribute [local go_sem] VL_mk VL2_mk If_t If_f If_not If_and If_or If_dt If_df If_et If_ef If_ne Ck_t Ck_h Opt_s ld_a ld_c renL ren keepR renA idxM invL getObs mapOb renOb allNone putAll fzR fzO fz fzL fzOb frzOk upFrom mapR resOne resA cellsOf oneA oneAL isP isPL okSt kRows kParts fillA setAt bor bor0 bor1 bor2 borC borI key0 key1 key2 keysA fillM cellsM cellM unif ptrA ifOk kPartsM getObsM allNoneM zipU scal0 scalar eqC evNil evNilF List.map_cons List.map_nil List.cons_append List.nil_append List.append_nil List.drop_zero List.drop_succ_cons List.drop_nil List.take_succ_cons List.take_zero List.take_nil List.length_cons List.length_nil List.length_map List.getElem?_map Option.map_some Option.map_none Int.toNat_natCast Int.toNat_zero Int.toNat_one Int.natCast_nonneg List.flatMap_cons List.flatMap_nil List.all_cons List.all_nil Bool.and_true Bool.true_and Bool.and_false Bool.false_and Bool.not_true Bool.not_false beq_self_eq_true nb_self all_nil List.forall_mem_cons tk_map tk_app bs_self bs_dec bq_t bq_f Bool.not_not decide_true decide_false Bool.not_not and_self and_true true_and eq_self List.reverse_cons List.reverse_nil List.getElem?_cons_zero List.getElem?_cons_succ cond_true cond_false List.set_cons_zero List.set_cons_succ Nat.zero_add Nat.add_zero if_true if_false ite_true ite_false implies_true wrap64 wrap8
set_option linter.unusedVariables false
set_option linter.unusedSimpArgs false
set_option maxRecDepth 10000
/-- In order within each block of twenty, ahead of a; the rest is as it was. -/
def Blk (T T1 : List Tg) (a : Nat) : Prop := Mixed T T1 0 a ∧ (∀ i j, i < j → j < a → i / 20 = j / 20 → ltT T1[i]! T1[j]!) ∧ ∀ k, k < a → T1[k]!.2 / 20 = k / 20
theorem Blk.step {T T1 T2 : List Tg} {c b : Nat} (h : Blk T T1 (20 * c)) (hb : b ≤ 20 * c + 20) (hcb : 20 * c ≤ b) (hm : Mixed T1 T2 (20 * c) b) (hs : SortedT T2 (20 * c) b)
    (ht : ∀ k, 20 * c ≤ k → k < b → 20 * c ≤ T2[k]!.2 ∧ T2[k]!.2 < b) : Blk T T2 b := by
  obtain ⟨h1, h2, h3⟩ := h
  refine ⟨⟨hm.perm.trans h1.perm, fun i hi => ?_⟩, fun i j e1 e2 e3 => ?_, fun k hk => ?_⟩
  · rw [hm.rest i (by omega), h1.rest i (by omega)]
  · by_cases hj : j < 20 * c
    · rw [hm.rest i (by omega), hm.rest j (by omega)]
      exact h2 i j e1 hj e3
    · exact hs i j (by omega) e1 e2
  · by_cases hk' : k < 20 * c
    · rw [hm.rest k (by omega)]
      exact h3 k hk'
    · have := ht k (by omega) hk
      omega
theorem C61i (v : Nat) (T : List Tg) (a b L : Nat) (x y : Int) (ex : x = a) (ey : y = b) (eL : L = T.length) (hab : a ≤ b) (hb : b ≤ T.length) (hl : T.length < 1000000) (htag : ∀ k, a ≤ k → k < b → T[k]!.2 = k) :
    Ctr Try.prog 61 [.hs 0 v 0 L, .int .i64 x, .int .i64 y, cF] (rowT v T) (fun r o => ∃ T', r = [] ∧ o = rowT v T' ∧ Mixed T T' a b ∧ SortedT T' a b ∧ ∀ k, a ≤ k → k < b → a ≤ T'[k]!.2 ∧ T'[k]!.2 < b) := by
  subst ex ey eL; exact C61 v T a b hab hb hl htag
theorem Blk.pre {T T1 : List Tg} {b : Nat} (h : Blk T T1 T.length) (h20 : 20 < b) (hb : b ≤ T.length) (h40 : b ≤ 40) : Pre T1 0 20 b := by
  obtain ⟨h1, h2, h3⟩ := h
  have hl := h1.len
  refine ⟨by omega, h20, by omega, fun i j e1 e2 e3 => h2 i j e2 (by omega) (by omega), fun i j e1 e2 e3 => h2 i j e2 (by omega) (by omega), fun p q e1 e2 e3 e4 => ?_⟩
  have := h3 p (by omega)
  have := h3 q (by omega)
  omega
set_option maxHeartbeats 4000000 in
theorem C59 (v : Nat) (T : List Tg) (hl : T.length ≤ 40) (htag : ∀ k, k < T.length → T[k]!.2 = k) :
    Ctr Try.prog 59 [.hs 0 v 0 T.length, .int .i64 T.length, cF] (rowT v T) (fun r o => ∃ T', r = [] ∧ o = rowT v T' ∧ T'.Perm T ∧ SortedT T' 0 T.length) := by
  apply ctr_b A59_ok rfl (Nat.le_of_ble_eq_true rfl)
  unfold A59
  simp only [rowT, initL, Nat.reduceAdd]
  simp (config := {maxSteps := 2000000, implicitDefEqProofs := false}) (disch := omega) only [↓reduceIte, go_sem, Int.reduceToNat, Nat.reduceAdd, Nat.reduceLeDiff, Nat.reduceEqDiff, Nat.reduceSub, Nat.reduceMul, reduceCtorEq]
  refine loopL (σ := Nat × List Tg) (fun s => ⟨[(0, .hs 0 v 0 T.length), (1, .int .i64 T.length), (2, cF), (6, .int .i64 20), (7, .int .i64 (20 * s.1 : Nat)), (8, .int .i64 (20 * s.1 + 20 : Nat))], [(0, .arr v 6 (s.2.map encT))]⟩)
    (fun s => 20 * s.1 ≤ T.length ∧ Blk T s.2 (20 * s.1)) (fun s => T.length - 20 * s.1) (0, T) (by simp (config := {maxSteps := 2000000, implicitDefEqProofs := false}) (disch := omega) only [↓reduceIte, go_sem, Int.reduceToNat, Nat.reduceAdd, Nat.reduceLeDiff, Nat.reduceEqDiff, Nat.reduceSub, Nat.reduceMul, reduceCtorEq]; rfl) ⟨by simp only; omega, Mixed.refl _ _ _, fun i j e1 e2 => by simp only at e2; omega, fun k e1 => by simp only at e1; omega⟩ ?_
  rintro ⟨c, T1⟩ ⟨g1, g2⟩
  simp only at g1 g2
  have hlen := g2.1.len
  simp (config := {maxSteps := 2000000, implicitDefEqProofs := false}) (disch := omega) only [↓reduceIte, go_sem, Int.reduceToNat, Nat.reduceAdd, Nat.reduceLeDiff, Nat.reduceEqDiff, Nat.reduceSub, Nat.reduceMul, reduceCtorEq]
  refine ifD (fun q => ?_) (fun q => ?_)
  · simp (config := {maxSteps := 2000000, implicitDefEqProofs := false}) (disch := omega) only [↓reduceIte, go_sem, Int.reduceToNat, Nat.reduceAdd, Nat.reduceLeDiff, Nat.reduceEqDiff, Nat.reduceSub, Nat.reduceMul, reduceCtorEq]
    refine callO (C61i v T1 (20 * c) (20 * c + 20) T.length _ _ (by omega) (by omega) hlen.symm (by omega) (by omega) (by omega) fun k e1 e2 => by rw [g2.1.rest k (by omega)]; exact htag k (by omega)) ?_
    rintro _ _ ⟨T2, rfl, rfl, k1, k2, k3⟩
    simp only [rowT]
    simp (config := {maxSteps := 2000000, implicitDefEqProofs := false}) (disch := omega) only [↓reduceIte, go_sem, Int.reduceToNat, Nat.reduceAdd, Nat.reduceLeDiff, Nat.reduceEqDiff, Nat.reduceSub, Nat.reduceMul, reduceCtorEq]
    refine ⟨(c + 1, T2), ?_, ⟨by simp only; omega, g2.step (b := 20 * (c + 1)) (by omega) (by omega) (by rw [Nat.mul_add]; exact k1) (by rw [Nat.mul_add]; exact k2) (by rw [Nat.mul_add]; exact k3)⟩, by simp only; omega⟩
    have e1 : ((20 * c + 20 : Nat) : Int) + 20 = ((20 * (c + 1) + 20 : Nat) : Int) := by omega
    rw [e1]
    rfl
  · simp (config := {maxSteps := 2000000, implicitDefEqProofs := false}) (disch := omega) only [↓reduceIte, go_sem, Int.reduceToNat, Nat.reduceAdd, Nat.reduceLeDiff, Nat.reduceEqDiff, Nat.reduceSub, Nat.reduceMul, reduceCtorEq]
    refine callO (C61i v T1 (20 * c) T.length T.length _ _ (by omega) (by omega) hlen.symm (by omega) (by omega) (by omega) fun k e1 e2 => by rw [g2.1.rest k (by omega)]; exact htag k (by omega)) ?_
    rintro _ _ ⟨T2, rfl, rfl, k1, k2, k3⟩
    have hB : Blk T T2 T.length := g2.step (by omega) (by omega) k1 k2 k3
    clear k1 k2 k3 g2 g1 hlen
    simp only [rowT]
    simp (config := {maxSteps := 2000000, implicitDefEqProofs := false}) (disch := omega) only [↓reduceIte, go_sem, Int.reduceToNat, Nat.reduceAdd, Nat.reduceLeDiff, Nat.reduceEqDiff, Nat.reduceSub, Nat.reduceMul, reduceCtorEq]
    refine loopL (σ := Nat × List Tg) (fun s => ⟨[(0, .hs 0 v 0 T.length), (1, .int .i64 T.length), (2, cF), (6, .int .i64 s.1)], [(0, .arr v 6 (s.2.map encT))]⟩)
      (fun s => (s.1 = 20 ∧ Blk T s.2 T.length) ∨ (s.1 = 40 ∧ s.2.Perm T ∧ SortedT s.2 0 T.length)) (fun s => 40 - s.1) (20, T2) (by simp (config := {maxSteps := 2000000, implicitDefEqProofs := false}) (disch := omega) only [↓reduceIte, go_sem, Int.reduceToNat, Nat.reduceAdd, Nat.reduceLeDiff, Nat.reduceEqDiff, Nat.reduceSub, Nat.reduceMul, reduceCtorEq]; rfl) (.inl ⟨rfl, hB⟩) ?_
    rintro ⟨bs, T3⟩ hs
    simp only at hs
    simp (config := {maxSteps := 2000000, implicitDefEqProofs := false}) (disch := omega) only [↓reduceIte, go_sem, Int.reduceToNat, Nat.reduceAdd, Nat.reduceLeDiff, Nat.reduceEqDiff, Nat.reduceSub, Nat.reduceMul, reduceCtorEq]
    refine ifD (fun c1 => ?_) (fun c1 => ?_)
    · rcases hs with ⟨rfl, hB⟩ | ⟨rfl, _, _⟩
      case inr => omega
      simp (config := {maxSteps := 2000000, implicitDefEqProofs := false}) (disch := omega) only [↓reduceIte, go_sem, Int.reduceToNat, Nat.reduceAdd, Nat.reduceLeDiff, Nat.reduceEqDiff, Nat.reduceSub, Nat.reduceMul, reduceCtorEq]
      refine loopL (σ := Nat × List Tg) (fun s => ⟨[(0, .hs 0 v 0 T.length), (1, .int .i64 T.length), (2, cF), (6, .int .i64 20), (7, .int .i64 (40 * s.1 : Nat)), (8, .int .i64 (40 * s.1 + 40 : Nat))], [(0, .arr v 6 (s.2.map encT))]⟩)
        (fun s => (s.1 = 0 ∧ Blk T s.2 T.length) ∨ (s.1 = 1 ∧ T.length = 40 ∧ s.2.Perm T ∧ SortedT s.2 0 T.length)) (fun s => 1 - s.1) (0, T3) (by simp (config := {maxSteps := 2000000, implicitDefEqProofs := false}) (disch := omega) only [↓reduceIte, go_sem, Int.reduceToNat, Nat.reduceAdd, Nat.reduceLeDiff, Nat.reduceEqDiff, Nat.reduceSub, Nat.reduceMul, reduceCtorEq]; rfl) (.inl ⟨rfl, hB⟩) ?_
      rintro ⟨d, T4⟩ hs
      simp only at hs
      simp (config := {maxSteps := 2000000, implicitDefEqProofs := false}) (disch := omega) only [↓reduceIte, go_sem, Int.reduceToNat, Nat.reduceAdd, Nat.reduceLeDiff, Nat.reduceEqDiff, Nat.reduceSub, Nat.reduceMul, reduceCtorEq]
      refine ifD (fun c2 => ?_) (fun c2 => ?_)
      · rcases hs with ⟨rfl, hB⟩ | ⟨rfl, h40, _, _⟩
        case inr => omega
        have h40 : T.length = 40 := by omega
        have hlen := hB.1.len
        simp (config := {maxSteps := 2000000, implicitDefEqProofs := false}) (disch := omega) only [↓reduceIte, go_sem, Int.reduceToNat, Nat.reduceAdd, Nat.reduceLeDiff, Nat.reduceEqDiff, Nat.reduceSub, Nat.reduceMul, reduceCtorEq]
        refine callO (C62 40 v T4 0 20 40 T.length _ _ _ (by omega) hlen.symm (by omega) (by omega) (by omega) (by omega) (hB.pre (by omega) (by omega) (by omega))) ?_
        rintro _ _ ⟨T5, rfl, rfl, k1, k2⟩
        simp only [rowT]
        simp (config := {maxSteps := 2000000, implicitDefEqProofs := false}) (disch := omega) only [↓reduceIte, go_sem, Int.reduceToNat, Nat.reduceAdd, Nat.reduceLeDiff, Nat.reduceEqDiff, Nat.reduceSub, Nat.reduceMul, reduceCtorEq]
        exact ⟨(1, T5), rfl, .inr ⟨rfl, h40, k1.perm.trans hB.1.perm, by rw [h40]; exact k2⟩, by simp only; omega⟩
      · simp (config := {maxSteps := 2000000, implicitDefEqProofs := false}) (disch := omega) only [↓reduceIte, go_sem, Int.reduceToNat, Nat.reduceAdd, Nat.reduceLeDiff, Nat.reduceEqDiff, Nat.reduceSub, Nat.reduceMul, reduceCtorEq]
        refine ifD (fun c3 => ?_) (fun c3 => ?_)
        · rcases hs with ⟨rfl, hB⟩ | ⟨rfl, h40, _, _⟩
          case inr => omega
          have hlen := hB.1.len
          simp (config := {maxSteps := 2000000, implicitDefEqProofs := false}) (disch := omega) only [↓reduceIte, go_sem, Int.reduceToNat, Nat.reduceAdd, Nat.reduceLeDiff, Nat.reduceEqDiff, Nat.reduceSub, Nat.reduceMul, reduceCtorEq]
          refine callO (C62 40 v T4 0 20 T.length T.length _ _ _ (by omega) hlen.symm (by omega) (by omega) (by omega) (by omega) (hB.pre (by omega) (by omega) (by omega))) ?_
          rintro _ _ ⟨T5, rfl, rfl, k1, k2⟩
          simp only [rowT]
          simp (config := {maxSteps := 2000000, implicitDefEqProofs := false}) (disch := omega) only [↓reduceIte, go_sem, Int.reduceToNat, Nat.reduceAdd, Nat.reduceLeDiff, Nat.reduceEqDiff, Nat.reduceSub, Nat.reduceMul, reduceCtorEq]
          exact ⟨(40, T5), rfl, .inr ⟨rfl, k1.perm.trans hB.1.perm, k2⟩, by simp only; omega⟩
        · simp (config := {maxSteps := 2000000, implicitDefEqProofs := false}) (disch := omega) only [↓reduceIte, go_sem, Int.reduceToNat, Nat.reduceAdd, Nat.reduceLeDiff, Nat.reduceEqDiff, Nat.reduceSub, Nat.reduceMul, reduceCtorEq]
          rcases hs with ⟨rfl, hB⟩ | ⟨rfl, h40, h1, h2⟩
          · omega
          · exact ⟨(40, T4), rfl, .inr ⟨rfl, h1, h2⟩, by simp only; omega⟩
    · simp (config := {maxSteps := 2000000, implicitDefEqProofs := false}) (disch := omega) only [↓reduceIte, go_sem, Int.reduceToNat, Nat.reduceAdd, Nat.reduceLeDiff, Nat.reduceEqDiff, Nat.reduceSub, Nat.reduceMul, reduceCtorEq]
      rcases hs with ⟨rfl, hB⟩ | ⟨rfl, h1, h2⟩
      · refine ⟨T3, rfl, hB.1.perm, fun i j e1 e2 e3 => hB.2.1 i j e2 e3 (by omega)⟩
      · exact ⟨T3, rfl, h1, h2⟩
end Go.Proofs.Ytcpjfjdlifjbhaa.X
namespace Go.Proofs.Ytcpjfjdlifjbhaa.X
open Go Go.AM Go.Proofs
attribute [local go_sem ↓] w_skip w_lbl w_ops w_draw w_pre w_post w_alt w_seq w_cond w_block w_loop w_exit w_ret w_scope w_rfunc l_nil l_cons th_n th_e th_r bk_n bk_r bk_e t_nil t_it t_call i_nil i_one i_grp s_nil s_cons c_call e_mv e_nil e_frz o_mov o_bin o_eq o_un o_conv o_len o_slen o_idx o_aix o_fad o_load o_store o_boxp o_boxo o_boxm o_alloc o_alloca o_nilarr o_build o_bslp o_bslo o_slc o_sslc o_slc3 o_sidx o_mkfn o_ext o_pick o_callf o_callb o_appd o_clear o_mxn o_field o_nilc o_make o_buildm o_boxg o_mkif o_tass o_eqs o_callo k_int k_str k_bool k_grb k_grt k_some k_none k_arr k_lens k_lenf k_lenh k_idxs k_idxf k_idxh k_ld k_loadp k_loadr k_loade k_storer k_storee k_oin k_ois k_slcs k_slcf k_slch k_slc3s k_slc3f k_slc3h k_app2 k_apps k_appf k_apph k_cals k_cald k_cali k_cnb k_cna k_esn k_esc k_efn k_efc k_esh b_add b_sub b_mul b_quo b_rem b_and b_or b_xor b_andNot b_eql b_neq b_lss b_leq b_gtr b_geq b_shl b_shr b_seq b_sne b_slt b_sad q_bool q_str q_nil q_nilf u_not u_neg u_xor f_ret f_nor v_r v_c v_reg v_ob v_set v_put v_so v_sn v_pn v_pc g_nil d_nil p_nil m_mv m_fr z_nil z_cons z_an z_ac g_cons d_cons p_cons y_mov y_bin y_eq y_un y_conv y_len y_slen y_idx y_aix y_fad y_load y_store y_boxp y_boxo y_boxm y_alloc y_alloca y_nilarr y_build y_bslp y_bslo y_slc y_sslc y_slc3 y_sidx y_mkfn y_ext y_pick y_callf y_callb y_appd y_clear y_mxn y_field y_nilc y_make y_buildm y_boxg y_mkif y_tass y_eqs y_callo nb_if
attribute [local go_sem] VL_mk VL2_mk If_t If_f If_not If_and If_or If_dt If_df If_et If_ef If_ne Ck_t Ck_h Opt_s ld_a ld_c renL ren keepR renA idxM invL getObs mapOb renOb allNone putAll fzR fzO fz fzL fzOb frzOk upFrom mapR resOne resA cellsOf oneA oneAL isP isPL okSt kRows kParts fillA setAt bor bor0 bor1 bor2 borC borI key0 key1 key2 keysA fillM cellsM cellM unif ptrA ifOk kPartsM getObsM allNoneM zipU scal0 scalar eqC evNil evNilF List.map_cons List.map_nil List.cons_append List.nil_append List.append_nil List.drop_zero List.drop_succ_cons List.drop_nil List.take_succ_cons List.take_zero List.take_nil List.length_cons List.length_nil List.length_map List.getElem?_map Option.map_some Option.map_none Int.toNat_natCast Int.toNat_zero Int.toNat_one Int.natCast_nonneg List.flatMap_cons List.flatMap_nil List.all_cons List.all_nil Bool.and_true Bool.true_and Bool.and_false Bool.false_and Bool.not_true Bool.not_false beq_self_eq_true nb_self all_nil List.forall_mem_cons tk_map tk_app bs_self bs_dec bq_t bq_f Bool.not_not decide_true decide_false Bool.not_not and_self and_true true_and eq_self List.reverse_cons List.reverse_nil List.getElem?_cons_zero List.getElem?_cons_succ cond_true cond_false List.set_cons_zero List.set_cons_succ Nat.zero_add Nat.add_zero if_true if_false ite_true ite_false implies_true wrap64 wrap8
set_option linter.unusedVariables false
set_option linter.unusedSimpArgs false
set_option maxRecDepth 10000
theorem ltT_irr (x : Tg) : ¬ ltT x x := by unfold ltT; omega
/-- Segments in the order of their From, then of their V, then as they stood. -/
noncomputable def srtT (l : List Seg) : List Tg := by
  classical
  exact l.zipIdx.mergeSort fun x y => decide (¬ ltT y x)
theorem srt_perm (l : List Seg) : (srtT l).Perm l.zipIdx := List.mergeSort_perm _ _
theorem zip_tag (l : List Seg) (k : Nat) (h : k < l.zipIdx.length) : l.zipIdx[k]!.2 = k := by
  rw [List.length_zipIdx] at h
  simp [h]
theorem zip_enc (l : List Seg) : l.zipIdx.map encT = l.map encS := by
  have : encT = encS ∘ Prod.fst := rfl
  rw [this, ← List.map_map, List.zipIdx_map_fst]
theorem zip_tot (l : List Seg) {x y : Tg} (hx : x ∈ l.zipIdx) (hy : y ∈ l.zipIdx) (h1 : ¬ ltT x y) (h2 : ¬ ltT y x) : x = y := by
  obtain ⟨s, i⟩ := x
  obtain ⟨t, j⟩ := y
  have e : i = j := by unfold ltT at h1 h2; simp only at h1 h2; omega
  subst e
  rw [List.mem_zipIdx_iff_getElem?] at hx hy
  rw [hx] at hy
  cases hy
  rfl
theorem ltT_asym {x y : Tg} (h : ltT x y) : ¬ ltT y x := fun k => ltT_irr _ (ltT_trans h k)
theorem sorted_pw {T : List Tg} (h : SortedT T 0 T.length) : T.Pairwise ltT := by
  rw [List.pairwise_iff_getElem]
  intro i j hi hj hij
  have := h i j (Nat.zero_le _) hij hj
  simpa [hi, hj] using this
theorem srt_le (l : List Seg) : (srtT l).Pairwise fun x y => ¬ ltT y x := by
  classical
  have := List.pairwise_mergeSort (le := fun x y : Tg => decide (¬ ltT y x)) (fun a b c h1 h2 => by
    simp only [decide_eq_true_eq] at h1 h2 ⊢
    unfold ltT at *
    omega) (fun a b => by
    by_cases h : ltT b a
    · simp [h, ltT_asym h]
    · simp [h]) l.zipIdx
  unfold srtT
  refine this.imp fun {a b} h => by simpa using h
theorem srt_eq (l : List Seg) {T : List Tg} (hp : T.Perm l.zipIdx) (hs : SortedT T 0 T.length) : T = srtT l := by
  refine List.Perm.eq_of_pairwise (le := fun x y => ¬ ltT y x) (fun a b ha hb h1 h2 => zip_tot l ((hp.mem_iff).1 ha) ((srt_perm l).mem_iff.1 hb) h2 h1) ((sorted_pw hs).imp fun {a b} h => ltT_asym h) (srt_le l) (hp.trans (srt_perm l).symm)
theorem C50 (v : Nat) (T : List Tg) (hl : T.length ≤ 40) (htag : ∀ k, k < T.length → T[k]!.2 = k) :
    Ctr Try.prog 50 [.hs 0 v 0 T.length, cF] (rowT v T) (fun r o => ∃ T', r = [] ∧ o = rowT v T' ∧ T'.Perm T ∧ SortedT T' 0 T.length) := by
  apply ctr_b A50_ok rfl (Nat.le_of_ble_eq_true rfl)
  unfold A50
  simp only [rowT, initL, Nat.reduceAdd]
  simp (config := {maxSteps := 2000000, implicitDefEqProofs := false}) (disch := omega) only [↓reduceIte, go_sem, Int.reduceToNat, Nat.reduceAdd, Nat.reduceLeDiff, Nat.reduceEqDiff, Nat.reduceSub, Nat.reduceMul, reduceCtorEq]
  refine callO (C59 v T hl htag) ?_
  rintro _ _ ⟨T2, rfl, rfl, k1, k2⟩
  simp only [rowT]
  simp (config := {maxSteps := 2000000, implicitDefEqProofs := false}) (disch := omega) only [↓reduceIte, go_sem, Int.reduceToNat, Nat.reduceAdd, Nat.reduceLeDiff, Nat.reduceEqDiff, Nat.reduceSub, Nat.reduceMul, reduceCtorEq]
  exact ⟨T2, rfl, k1, k2⟩
theorem C33 (l : List Seg) (hl : l.length ≤ 40) : Ctr Try.prog 33 [.fn 51 [.rp [.sl (l.map encS)]], cF] [] (ret [.sl ((srtT l).map encT)]) := by
  apply ctr_b A33_ok rfl (Nat.le_of_ble_eq_true rfl)
  unfold A33
  simp only [initL, Nat.reduceAdd]
  simp (config := {maxSteps := 2000000, implicitDefEqProofs := false}) (disch := omega) only [↓reduceIte, go_sem, Int.reduceToNat, Nat.reduceAdd, Nat.reduceLeDiff, Nat.reduceEqDiff, Nat.reduceSub, Nat.reduceMul, reduceCtorEq]
  refine callD (C49 51 _ l rfl (by omega) (I51 l (by omega))) ?_
  simp (config := {maxSteps := 2000000, implicitDefEqProofs := false}) (disch := omega) only [↓reduceIte, go_sem, Int.reduceToNat, Nat.reduceAdd, Nat.reduceLeDiff, Nat.reduceEqDiff, Nat.reduceSub, Nat.reduceMul, reduceCtorEq]
  have hc := C50 l.length l.zipIdx (by simpa using hl) (zip_tag l)
  rw [List.length_zipIdx] at hc
  unfold rowT at hc
  rw [zip_enc] at hc
  refine callO hc ?_
  rintro _ _ ⟨T2, rfl, rfl, k1, k2⟩
  have hlen : T2.length = l.length := by rw [k1.length_eq, List.length_zipIdx]
  rw [← hlen] at k2
  have e := srt_eq l k1 k2
  subst e
  simp (config := {maxSteps := 2000000, implicitDefEqProofs := false}) (disch := omega) only [↓reduceIte, go_sem, Int.reduceToNat, Nat.reduceAdd, Nat.reduceLeDiff, Nat.reduceEqDiff, Nat.reduceSub, Nat.reduceMul, reduceCtorEq, hlen]
  rw [List.take_of_length_le (by rw [List.length_map, hlen]; exact Nat.le_refl _)]
  exact ⟨rfl, rfl⟩
theorem C25 (l : List Seg) (hl : l.length ≤ 40) : Ctr Try.prog 25 [.sl (l.map encS)] [] (ret [.sl ((srtT l).map encT)]) := by
  apply ctr_b A25_ok rfl (Nat.le_of_ble_eq_true rfl)
  unfold A25
  simp only [initL, Nat.reduceAdd]
  simp (config := {maxSteps := 2000000, implicitDefEqProofs := false}) (disch := omega) only [↓reduceIte, go_sem, Int.reduceToNat, Nat.reduceAdd, Nat.reduceLeDiff, Nat.reduceEqDiff, Nat.reduceSub, Nat.reduceMul, reduceCtorEq]
  refine callL (C34 l) ?_
  simp (config := {maxSteps := 2000000, implicitDefEqProofs := false}) (disch := omega) only [↓reduceIte, go_sem, Int.reduceToNat, Nat.reduceAdd, Nat.reduceLeDiff, Nat.reduceEqDiff, Nat.reduceSub, Nat.reduceMul, reduceCtorEq]
  refine callL (C33 l hl) ?_
  simp (config := {maxSteps := 2000000, implicitDefEqProofs := false}) (disch := omega) only [↓reduceIte, go_sem, Int.reduceToNat, Nat.reduceAdd, Nat.reduceLeDiff, Nat.reduceEqDiff, Nat.reduceSub, Nat.reduceMul, reduceCtorEq]
  exact ⟨rfl, rfl⟩
end Go.Proofs.Ytcpjfjdlifjbhaa.X
namespace Go.Proofs.Ytcpjfjdlifjbhaa.X
open Go Go.AM Go.Proofs
attribute [local go_sem ↓] w_skip w_lbl w_ops w_draw w_pre w_post w_alt w_seq w_cond w_block w_loop w_exit w_ret w_scope w_rfunc l_nil l_cons th_n th_e th_r bk_n bk_r bk_e t_nil t_it t_call i_nil i_one i_grp s_nil s_cons c_call e_mv e_nil e_frz o_mov o_bin o_eq o_un o_conv o_len o_slen o_idx o_aix o_fad o_load o_store o_boxp o_boxo o_boxm o_alloc o_alloca o_nilarr o_build o_bslp o_bslo o_slc o_sslc o_slc3 o_sidx o_mkfn o_ext o_pick o_callf o_callb o_appd o_clear o_mxn o_field o_nilc o_make o_buildm o_boxg o_mkif o_tass o_eqs o_callo k_int k_str k_bool k_grb k_grt k_some k_none k_arr k_lens k_lenf k_lenh k_idxs k_idxf k_idxh k_ld k_loadp k_loadr k_loade k_storer k_storee k_oin k_ois k_slcs k_slcf k_slch k_slc3s k_slc3f k_slc3h k_app2 k_apps k_appf k_apph k_cals k_cald k_cali k_cnb k_cna k_esn k_esc k_efn k_efc k_esh b_add b_sub b_mul b_quo b_rem b_and b_or b_xor b_andNot b_eql b_neq b_lss b_leq b_gtr b_geq b_shl b_shr b_seq b_sne b_slt b_sad q_bool q_str q_nil q_nilf u_not u_neg u_xor f_ret f_nor v_r v_c v_reg v_ob v_set v_put v_so v_sn v_pn v_pc g_nil d_nil p_nil m_mv m_fr z_nil z_cons z_an z_ac g_cons d_cons p_cons y_mov y_bin y_eq y_un y_conv y_len y_slen y_idx y_aix y_fad y_load y_store y_boxp y_boxo y_boxm y_alloc y_alloca y_nilarr y_build y_bslp y_bslo y_slc y_sslc y_slc3 y_sidx y_mkfn y_ext y_pick y_callf y_callb y_appd y_clear y_mxn y_field y_nilc y_make y_buildm y_boxg y_mkif y_tass y_eqs y_callo nb_if
attribute [local go_sem] VL_mk VL2_mk If_t If_f If_not If_and If_or If_dt If_df If_et If_ef If_ne Ck_t Ck_h Opt_s ld_a ld_c renL ren keepR renA idxM invL getObs mapOb renOb allNone putAll fzR fzO fz fzL fzOb frzOk upFrom mapR resOne resA cellsOf oneA oneAL isP isPL okSt kRows kParts fillA setAt bor bor0 bor1 bor2 borC borI key0 key1 key2 keysA fillM cellsM cellM unif ptrA ifOk kPartsM getObsM allNoneM zipU scal0 scalar eqC evNil evNilF List.map_cons List.map_nil List.cons_append List.nil_append List.append_nil List.drop_zero List.drop_succ_cons List.drop_nil List.take_succ_cons List.take_zero List.take_nil List.length_cons List.length_nil List.length_map List.getElem?_map Option.map_some Option.map_none Int.toNat_natCast Int.toNat_zero Int.toNat_one Int.natCast_nonneg List.flatMap_cons List.flatMap_nil List.all_cons List.all_nil Bool.and_true Bool.true_and Bool.and_false Bool.false_and Bool.not_true Bool.not_false beq_self_eq_true nb_self all_nil List.forall_mem_cons tk_map tk_app bs_self bs_dec bq_t bq_f Bool.not_not decide_true decide_false Bool.not_not and_self and_true true_and eq_self List.reverse_cons List.reverse_nil List.getElem?_cons_zero List.getElem?_cons_succ cond_true cond_false List.set_cons_zero List.set_cons_succ Nat.zero_add Nat.add_zero if_true if_false ite_true ite_false implies_true wrap64 wrap8
set_option linter.unusedVariables false
set_option linter.unusedSimpArgs false
set_option maxRecDepth 10000
def ren189 : Go.Shelf.Ren := ⟨fun | 189 => 24 | 125 => 32 | 257 => 31 | 128 => 47 | 129 => 48 | 294 => 38 | 295 => 39 | 296 => 40 | 297 => 41 | 298 => 42 | 299 => 43 | 216 => 44 | 300 => 45 | 301 => 46 | 328 => 53 | 329 => 54 | 330 => 55 | 331 => 56 | 332 => 57 | 215 => 52 | 343 => 60 | n => n, fun | 28 => 26 | 3 => 3 | 46 => 49 | 0 => 0 | 51 => 66 | 53 => 68 | 4 => 4 | 183 => 59 | 182 => 58 | 131 => 24 | 5 => 5 | 9 => 9 | 218 => 72 | 222 => 76 | 228 => 80 | 229 => 81 | n => n, fun x => x⟩
theorem lays189 : Lays.n189 Try.prog ren189 where
  mixed := by kernel_rfl
  f125 := Eq.trans Try.func32 (congrArg some (by kernel_rfl))
  f128 := Eq.trans Try.func47 (congrArg some (by kernel_rfl))
  f129 := Eq.trans Try.func48 (congrArg some (by kernel_rfl))
  f189 := Eq.trans Try.func24 (congrArg some (by kernel_rfl))
  f215 := Eq.trans Try.func52 (congrArg some (by kernel_rfl))
  f216 := Eq.trans Try.func44 (congrArg some (by kernel_rfl))
  f257 := Eq.trans Try.func31 (congrArg some (by kernel_rfl))
  f294 := Eq.trans Try.func38 (congrArg some (by kernel_rfl))
  f295 := Eq.trans Try.func39 (congrArg some (by kernel_rfl))
  f296 := Eq.trans Try.func40 (congrArg some (by kernel_rfl))
  f297 := Eq.trans Try.func41 (congrArg some (by kernel_rfl))
  f298 := Eq.trans Try.func42 (congrArg some (by kernel_rfl))
  f299 := Eq.trans Try.func43 (congrArg some (by kernel_rfl))
  f300 := Eq.trans Try.func45 (congrArg some (by kernel_rfl))
  f301 := Eq.trans Try.func46 (congrArg some (by kernel_rfl))
  f328 := Eq.trans Try.func53 (congrArg some (by kernel_rfl))
  f329 := Eq.trans Try.func54 (congrArg some (by kernel_rfl))
  f330 := Eq.trans Try.func55 (congrArg some (by kernel_rfl))
  f331 := Eq.trans Try.func56 (congrArg some (by kernel_rfl))
  f332 := Eq.trans Try.func57 (congrArg some (by kernel_rfl))
  f343 := Eq.trans Try.func60 (congrArg some (by kernel_rfl))
  t0 := Try.underlying0
  a0 := Try.isAgg0
  z0 := Try.sizeOf0
  v0 := Try.zeroValue0
  t3 := Try.underlying3
  a3 := Try.isAgg3
  z3 := Try.sizeOf3
  v3 := Try.zeroValue3
  t4 := Try.underlying4
  a4 := Try.isAgg4
  z4 := Try.sizeOf4
  v4 := Try.zeroValue4
  t5 := Try.underlying5
  a5 := Try.isAgg5
  z5 := Try.sizeOf5
  v5 := Try.zeroValue5
  t9 := Try.underlying9
  a9 := Try.isAgg9
  z9 := Try.sizeOf9
  v9 := Try.zeroValue9
  t28 := Try.underlying26
  a28 := Try.isAgg26
  z28 := Try.sizeOf26
  v28 := Try.zeroValue26
  t46 := Try.underlying49
  a46 := Try.isAgg49
  z46 := Try.sizeOf49
  v46 := Try.zeroValue49
  t51 := Try.underlying66
  a51 := Try.isAgg66
  z51 := Try.sizeOf66
  v51 := Try.zeroValue66
  t53 := Try.underlying68
  a53 := Try.isAgg68
  z53 := Try.sizeOf68
  v53 := Try.zeroValue68
  t131 := Try.underlying24
  a131 := Try.isAgg24
  z131 := Try.sizeOf24
  v131 := Try.zeroValue24
  t182 := Try.underlying58
  a182 := Try.isAgg58
  z182 := Try.sizeOf58
  v182 := Try.zeroValue58
  t183 := Try.underlying59
  a183 := Try.isAgg59
  z183 := Try.sizeOf59
  v183 := Try.zeroValue59
  t218 := Try.underlying72
  a218 := Try.isAgg72
  z218 := Try.sizeOf72
  v218 := Try.zeroValue72
  t222 := Try.underlying76
  a222 := Try.isAgg76
  z222 := Try.sizeOf76
  v222 := Try.zeroValue76
  t228 := Try.underlying80
  a228 := Try.isAgg80
  z228 := Try.sizeOf80
  v228 := Try.zeroValue80
  t229 := Try.underlying81
  a229 := Try.isAgg81
  z229 := Try.sizeOf81
  v229 := Try.zeroValue81

theorem C48 : Ctr Try.prog 48 [.int .u64 0] [] (ret [.int .i64 0]) := by
  apply ctr_b A48_ok rfl (Nat.le_of_ble_eq_true rfl)
  unfold A48
  simp only [initL, Nat.reduceAdd]
  simp (config := {maxSteps := 2000000, implicitDefEqProofs := false}) (disch := omega) only [↓reduceIte, go_sem, Int.reduceToNat, Nat.reduceAdd, Nat.reduceLeDiff, Nat.reduceEqDiff, Nat.reduceSub, Nat.reduceMul, reduceCtorEq]
  refine optL (m := 0) (by kernel_rfl) ?_
  simp (config := {maxSteps := 2000000, implicitDefEqProofs := false}) (disch := omega) only [↓reduceIte, go_sem, Int.reduceToNat, Nat.reduceAdd, Nat.reduceLeDiff, Nat.reduceEqDiff, Nat.reduceSub, Nat.reduceMul, reduceCtorEq]
  exact ⟨rfl, rfl⟩
theorem C32 : Ctr Try.prog 32 [.int .u64 0] [] (ret [.int .i64 0]) := by
  apply ctr_b A32_ok rfl (Nat.le_of_ble_eq_true rfl)
  unfold A32
  simp only [initL, Nat.reduceAdd]
  simp (config := {maxSteps := 2000000, implicitDefEqProofs := false}) (disch := omega) only [↓reduceIte, go_sem, Int.reduceToNat, Nat.reduceAdd, Nat.reduceLeDiff, Nat.reduceEqDiff, Nat.reduceSub, Nat.reduceMul, reduceCtorEq]
  refine callL C48 ?_
  simp (config := {maxSteps := 2000000, implicitDefEqProofs := false}) (disch := omega) only [↓reduceIte, go_sem, Int.reduceToNat, Nat.reduceAdd, Nat.reduceLeDiff, Nat.reduceEqDiff, Nat.reduceSub, Nat.reduceMul, reduceCtorEq]
  exact ⟨rfl, rfl⟩
theorem C38n (v : Nat) : Ctr Try.prog 38 [.hs 0 v 0 0, .int .i64 0, .int .i64 0] [.arr v 1 []] (retO [] [.arr v 1 []]) := by
  apply ctr_b A38_ok rfl (Nat.le_of_ble_eq_true rfl)
  unfold A38
  simp only [initL, Nat.reduceAdd]
  simp (config := {maxSteps := 2000000, implicitDefEqProofs := false}) (disch := omega) only [↓reduceIte, go_sem, Int.reduceToNat, Nat.reduceAdd, Nat.reduceLeDiff, Nat.reduceEqDiff, Nat.reduceSub, Nat.reduceMul, reduceCtorEq]
  refine loopL (σ := Unit) (fun s => ⟨[(0, .hs 0 v 0 0), (1, .int .i64 0), (2, .int .i64 0), (6, .int .i64 1)], [(0, .arr v 1 [])]⟩) (fun s => True) (fun s => 0) () (by simp (config := {maxSteps := 2000000, implicitDefEqProofs := false}) (disch := omega) only [↓reduceIte, go_sem, Int.reduceToNat, Nat.reduceAdd, Nat.reduceLeDiff, Nat.reduceEqDiff, Nat.reduceSub, Nat.reduceMul, reduceCtorEq]; rfl) trivial ?_
  intro _ _
  simp (config := {maxSteps := 2000000, implicitDefEqProofs := false}) (disch := omega) only [↓reduceIte, go_sem, Int.reduceToNat, Nat.reduceAdd, Nat.reduceLeDiff, Nat.reduceEqDiff, Nat.reduceSub, Nat.reduceMul, reduceCtorEq]
  exact ⟨rfl, rfl⟩
theorem C31n (v : Nat) : Ctr Try.prog 31 [.hs 0 v 0 0, .int .i64 0, .int .i64 0, .int .i64 0] [.arr v 1 []] (retO [] [.arr v 1 []]) := by
  apply ctr_b A31_ok rfl (Nat.le_of_ble_eq_true rfl)
  unfold A31
  simp only [initL, Nat.reduceAdd]
  simp (config := {maxSteps := 2000000, implicitDefEqProofs := false}) (disch := omega) only [↓reduceIte, go_sem, Int.reduceToNat, Nat.reduceAdd, Nat.reduceLeDiff, Nat.reduceEqDiff, Nat.reduceSub, Nat.reduceMul, reduceCtorEq]
  refine loopL (σ := Unit) (fun s => ⟨[(0, .hs 0 v 0 0), (1, .int .i64 0), (2, .int .i64 0), (3, .int .i64 0), (8, .bool true), (9, .bool true)], [(0, .arr v 1 [])]⟩) (fun s => True) (fun s => 0) () (by simp (config := {maxSteps := 2000000, implicitDefEqProofs := false}) (disch := omega) only [↓reduceIte, go_sem, Int.reduceToNat, Nat.reduceAdd, Nat.reduceLeDiff, Nat.reduceEqDiff, Nat.reduceSub, Nat.reduceMul, reduceCtorEq]) trivial ?_
  intro _ _
  simp (config := {maxSteps := 2000000, implicitDefEqProofs := false}) (disch := omega) only [↓reduceIte, go_sem, Int.reduceToNat, Nat.reduceAdd, Nat.reduceLeDiff, Nat.reduceEqDiff, Nat.reduceSub, Nat.reduceMul, reduceCtorEq]
  refine callO (C38n v) ?_
  rintro _ _ ⟨rfl, rfl⟩
  simp (config := {maxSteps := 2000000, implicitDefEqProofs := false}) (disch := omega) only [↓reduceIte, go_sem, Int.reduceToNat, Nat.reduceAdd, Nat.reduceLeDiff, Nat.reduceEqDiff, Nat.reduceSub, Nat.reduceMul, reduceCtorEq]
  exact ⟨rfl, rfl⟩
theorem C24n (v : Nat) : Ctr Try.prog 24 [.hs 0 v 0 0] [.arr v 1 []] (retO [] [.arr v 1 []]) := by
  apply ctr_b A24_ok rfl (Nat.le_of_ble_eq_true rfl)
  unfold A24
  simp only [initL, Nat.reduceAdd]
  simp (config := {maxSteps := 2000000, implicitDefEqProofs := false}) (disch := omega) only [↓reduceIte, go_sem, Int.reduceToNat, Nat.reduceAdd, Nat.reduceLeDiff, Nat.reduceEqDiff, Nat.reduceSub, Nat.reduceMul, reduceCtorEq]
  refine callL C32 ?_
  simp (config := {maxSteps := 2000000, implicitDefEqProofs := false}) (disch := omega) only [↓reduceIte, go_sem, Int.reduceToNat, Nat.reduceAdd, Nat.reduceLeDiff, Nat.reduceEqDiff, Nat.reduceSub, Nat.reduceMul, reduceCtorEq]
  refine callO (C31n v) ?_
  rintro _ _ ⟨rfl, rfl⟩
  simp (config := {maxSteps := 2000000, implicitDefEqProofs := false}) (disch := omega) only [↓reduceIte, go_sem, Int.reduceToNat, Nat.reduceAdd, Nat.reduceLeDiff, Nat.reduceEqDiff, Nat.reduceSub, Nat.reduceMul, reduceCtorEq]
  exact ⟨rfl, rfl⟩
/-- slices.Sort of numbers. -/
theorem C24 (v : Nat) (zs : List Int) (hl : zs.length < 1000000) : Ctr Try.prog 24 [.hs 0 v 0 zs.length] [.arr v 1 (zs.map encN)] (retO [] [.arr v 1 ((zs.mergeSort leI).map encN)]) := by
  by_cases h : zs = []
  · subst h
    have e : ([] : List Int).mergeSort leI = [] := by simp
    rw [e]
    exact C24n v
  · exact ctr_sort1 (by kernel_rfl) (fun blk off cap zs w h1 h2 h3 => Any.slices_Sort_int lays189 blk off cap zs w h1 h2 h3) v zs h hl
end Go.Proofs.Ytcpjfjdlifjbhaa.X
namespace Go.Proofs.Ytcpjfjdlifjbhaa.X
open Go Go.AM Go.Proofs
attribute [local go_sem ↓] w_skip w_lbl w_ops w_draw w_pre w_post w_alt w_seq w_cond w_block w_loop w_exit w_ret w_scope w_rfunc l_nil l_cons th_n th_e th_r bk_n bk_r bk_e t_nil t_it t_call i_nil i_one i_grp s_nil s_cons c_call e_mv e_nil e_frz o_mov o_bin o_eq o_un o_conv o_len o_slen o_idx o_aix o_fad o_load o_store o_boxp o_boxo o_boxm o_alloc o_alloca o_nilarr o_build o_bslp o_bslo o_slc o_sslc o_slc3 o_sidx o_mkfn o_ext o_pick o_callf o_callb o_appd o_clear o_mxn o_field o_nilc o_make o_buildm o_boxg o_mkif o_tass o_eqs o_callo k_int k_str k_bool k_grb k_grt k_some k_none k_arr k_lens k_lenf k_lenh k_idxs k_idxf k_idxh k_ld k_loadp k_loadr k_loade k_storer k_storee k_oin k_ois k_slcs k_slcf k_slch k_slc3s k_slc3f k_slc3h k_app2 k_apps k_appf k_apph k_cals k_cald k_cali k_cnb k_cna k_esn k_esc k_efn k_efc k_esh b_add b_sub b_mul b_quo b_rem b_and b_or b_xor b_andNot b_eql b_neq b_lss b_leq b_gtr b_geq b_shl b_shr b_seq b_sne b_slt b_sad q_bool q_str q_nil q_nilf u_not u_neg u_xor f_ret f_nor v_r v_c v_reg v_ob v_set v_put v_so v_sn v_pn v_pc g_nil d_nil p_nil m_mv m_fr z_nil z_cons z_an z_ac g_cons d_cons p_cons y_mov y_bin y_eq y_un y_conv y_len y_slen y_idx y_aix y_fad y_load y_store y_boxp y_boxo y_boxm y_alloc y_alloca y_nilarr y_build y_bslp y_bslo y_slc y_sslc y_slc3 y_sidx y_mkfn y_ext y_pick y_callf y_callb y_appd y_clear y_mxn y_field y_nilc y_make y_buildm y_boxg y_mkif y_tass y_eqs y_callo nb_if
attribute [local go_sem] VL_mk VL2_mk If_t If_f If_not If_and If_or If_dt If_df If_et If_ef If_ne Ck_t Ck_h Opt_s ld_a ld_c renL ren keepR renA idxM invL getObs mapOb renOb allNone putAll fzR fzO fz fzL fzOb frzOk upFrom mapR resOne resA cellsOf oneA oneAL isP isPL okSt kRows kParts fillA setAt bor bor0 bor1 bor2 borC borI key0 key1 key2 keysA fillM cellsM cellM unif ptrA ifOk kPartsM getObsM allNoneM zipU scal0 scalar eqC evNil evNilF List.map_cons List.map_nil List.cons_append List.nil_append List.append_nil List.drop_zero List.drop_succ_cons List.drop_nil List.take_succ_cons List.take_zero List.take_nil List.length_cons List.length_nil List.length_map List.getElem?_map Option.map_some Option.map_none Int.toNat_natCast Int.toNat_zero Int.toNat_one Int.natCast_nonneg List.flatMap_cons List.flatMap_nil List.all_cons List.all_nil Bool.and_true Bool.true_and Bool.and_false Bool.false_and Bool.not_true Bool.not_false beq_self_eq_true nb_self all_nil List.forall_mem_cons tk_map tk_app bs_self bs_dec bq_t bq_f Bool.not_not decide_true decide_false Bool.not_not and_self and_true true_and eq_self List.reverse_cons List.reverse_nil List.getElem?_cons_zero List.getElem?_cons_succ cond_true cond_false List.set_cons_zero List.set_cons_succ Nat.zero_add Nat.add_zero if_true if_false ite_true ite_false implies_true wrap64 wrap8
set_option linter.unusedVariables false
set_option linter.unusedSimpArgs false
set_option maxRecDepth 10000
/-- The first place at which something is so; -1: there is none. -/
def ixF {α : Type} (p : α → Bool) (l : List α) : Int := match l.findIdx? p with | some i => i | none => -1
theorem ixF_hit {α : Type} {p : α → Bool} {l : List α} {i : Nat} {x : α} (h : l[i]? = some x) (hp : p x = true) (hb : ∀ j y, j < i → l[j]? = some y → p y = false) : ixF p l = i := by
  have hi := (List.getElem?_eq_some_iff.1 h).1
  have : l.findIdx? p = some i := by
    rw [List.findIdx?_eq_some_iff_getElem]
    refine ⟨hi, ?_, fun j hj => ?_⟩
    · rw [List.getElem?_eq_getElem hi] at h
      cases h
      exact hp
    · have := hb j _ hj (List.getElem?_eq_getElem (by omega))
      simpa using this
  simp only [ixF, this]
theorem ixF_none {α : Type} {p : α → Bool} {l : List α} (h : ∀ j y, j < l.length → l[j]? = some y → p y = false) : ixF p l = -1 := by
  have : l.findIdx? p = none := by
    rw [List.findIdx?_eq_none_iff]
    intro x hx
    obtain ⟨j, hj⟩ := List.getElem?_of_mem hx
    exact h j x (List.getElem?_eq_some_iff.1 hj).1 hj
  simp only [ixF, this]
theorem ixF_nonneg {α : Type} (p : α → Bool) (l : List α) : decide (ixF p l ≥ 0) = l.any p := by
  unfold ixF
  cases h : l.findIdx? p with
  | some i =>
    have h2 : (l.findIdx? p).isSome = true := by rw [h]; rfl
    rw [List.findIdx?_isSome] at h2
    simp only [h2]
    simp
  | none =>
    have h2 : (l.findIdx? p).isSome = false := by rw [h]; rfl
    rw [List.findIdx?_isSome] at h2
    simp only [h2]
    simp
theorem enc_get {l : List Int} {i : Nat} (h : i < l.length) : Option.map encN l[i]? = some [.int .i64 l[i]!] := by
  simp [h, encN]
theorem C30 (u : List Int) (x : Int) (hl : u.length < 1000000) : Ctr Try.prog 30 [.sl (u.map encN), .int .i64 x] [] (ret [.int .i64 (ixF (x == ·) u)]) := by
  apply ctr_b A30_ok rfl (Nat.le_of_ble_eq_true rfl)
  unfold A30
  simp only [initL, Nat.reduceAdd]
  simp (config := {maxSteps := 2000000, implicitDefEqProofs := false}) (disch := omega) only [↓reduceIte, go_sem, Int.reduceToNat, Nat.reduceAdd, Nat.reduceLeDiff, Nat.reduceEqDiff, Nat.reduceSub, Nat.reduceMul, reduceCtorEq]
  refine loopL (σ := Nat) (fun s => ⟨[(0, .sl (u.map encN)), (1, .int .i64 x), (7, .int .i64 u.length), (8, .int .i64 s)], []⟩) (fun s => s ≤ u.length ∧ ∀ j y, j < s → u[j]? = some y → (x == y) = false) (fun s => u.length - s) 0 (by simp (config := {maxSteps := 2000000, implicitDefEqProofs := false}) (disch := omega) only [↓reduceIte, go_sem, Int.reduceToNat, Nat.reduceAdd, Nat.reduceLeDiff, Nat.reduceEqDiff, Nat.reduceSub, Nat.reduceMul, reduceCtorEq]; rfl) ⟨by omega, fun j y hj => by omega⟩ ?_
  rintro s ⟨h1, h2⟩
  simp (config := {maxSteps := 2000000, implicitDefEqProofs := false}) (disch := omega) only [↓reduceIte, go_sem, Int.reduceToNat, Nat.reduceAdd, Nat.reduceLeDiff, Nat.reduceEqDiff, Nat.reduceSub, Nat.reduceMul, reduceCtorEq]
  refine ifD (fun c => ?_) (fun c => ?_)
  · have hs : s < u.length := by omega
    have hg := enc_get hs
    simp (config := {maxSteps := 2000000, implicitDefEqProofs := false}) (disch := omega) only [↓reduceIte, go_sem, Int.reduceToNat, Nat.reduceAdd, Nat.reduceLeDiff, Nat.reduceEqDiff, Nat.reduceSub, Nat.reduceMul, reduceCtorEq, hg]
    refine ifE (fun e => ?_) (fun e => ?_)
    · simp (config := {maxSteps := 2000000, implicitDefEqProofs := false}) (disch := omega) only [↓reduceIte, go_sem, Int.reduceToNat, Nat.reduceAdd, Nat.reduceLeDiff, Nat.reduceEqDiff, Nat.reduceSub, Nat.reduceMul, reduceCtorEq]
      exact ⟨by rw [ixF_hit (i := s) (x := u[s]!) (by simp [hs]) (by simp [e]) h2], rfl⟩
    · simp (config := {maxSteps := 2000000, implicitDefEqProofs := false}) (disch := omega) only [↓reduceIte, go_sem, Int.reduceToNat, Nat.reduceAdd, Nat.reduceLeDiff, Nat.reduceEqDiff, Nat.reduceSub, Nat.reduceMul, reduceCtorEq]
      refine ⟨s + 1, by simp, ⟨by omega, fun j y hj hy => ?_⟩, by omega⟩
      by_cases hjs : j = s
      · subst hjs
        have : u[j]? = some u[j]! := by simp [hs]
        rw [this] at hy
        cases hy
        simpa using e
      · exact h2 j y (by omega) hy
  · simp (config := {maxSteps := 2000000, implicitDefEqProofs := false}) (disch := omega) only [↓reduceIte, go_sem, Int.reduceToNat, Nat.reduceAdd, Nat.reduceLeDiff, Nat.reduceEqDiff, Nat.reduceSub, Nat.reduceMul, reduceCtorEq]
    exact ⟨by rw [ixF_none fun j y hj hy => h2 j y (by omega) hy], rfl⟩
theorem any_contains (u : List Int) (x : Int) : u.any (x == ·) = u.contains x := by
  rw [List.contains_eq_any_beq]
theorem C26 (u : List Int) (x : Int) (hl : u.length < 1000000) : Ctr Try.prog 26 [.sl (u.map encN), .int .i64 x] [] (ret [.bool (u.contains x)]) := by
  apply ctr_b A26_ok rfl (Nat.le_of_ble_eq_true rfl)
  unfold A26
  simp only [initL, Nat.reduceAdd]
  simp (config := {maxSteps := 2000000, implicitDefEqProofs := false}) (disch := omega) only [↓reduceIte, go_sem, Int.reduceToNat, Nat.reduceAdd, Nat.reduceLeDiff, Nat.reduceEqDiff, Nat.reduceSub, Nat.reduceMul, reduceCtorEq]
  refine callL (C30 u x hl) ?_
  simp (config := {maxSteps := 2000000, implicitDefEqProofs := false}) (disch := omega) only [↓reduceIte, go_sem, Int.reduceToNat, Nat.reduceAdd, Nat.reduceLeDiff, Nat.reduceEqDiff, Nat.reduceSub, Nat.reduceMul, reduceCtorEq]
  exact ⟨by rw [ixF_nonneg, any_contains], rfl⟩
def slotB (s : Seg) : Bool := s.loc.kind == 3
/-- The slots of segments, each where it stands first. -/
def dd : List Int → List Tg → List Int
  | _, [] => []
  | seen, t :: S => if slotB t.1 && !(seen.contains t.1.loc.n) then t.1.loc.n :: dd (seen ++ [t.1.loc.n]) S else dd seen S
theorem dd_cons (seen : List Int) (t : Tg) (S : List Tg) : dd seen (t :: S) = if slotB t.1 && !(seen.contains t.1.loc.n) then t.1.loc.n :: dd (seen ++ [t.1.loc.n]) S else dd seen S := rfl
theorem dd_len : ∀ (S : List Tg) (seen : List Int), (dd seen S).length ≤ S.length
  | [], _ => by simp [dd]
  | t :: S, seen => by
    unfold dd
    split
    · have := dd_len S (seen ++ [t.1.loc.n])
      simp only [List.length_cons]
      omega
    · have := dd_len S seen
      simp only [List.length_cons]
      omega
noncomputable def usedF (l : List Seg) : List Int := dd [] (srtT l)
theorem srt_len (l : List Seg) : (srtT l).length = l.length := by rw [(srt_perm l).length_eq, List.length_zipIdx]
theorem usedF_len (l : List Seg) : (usedF l).length ≤ l.length := by
  have := dd_len (srtT l) []
  rw [srt_len] at this
  exact this
/-- Are numbers 0, 1, 2, and so on? -/
def denseF (u : List Int) : Bool := u == (List.range u.length).map fun i : Nat => (i : Int)
theorem denseF_true {u : List Int} (h : ∀ j, j < u.length → u[j]! = j) : denseF u = true := by
  unfold denseF
  rw [beq_iff_eq]
  refine List.ext_getElem (by simp) fun i h1 h2 => ?_
  have := h i h1
  simp [h1] at this
  simp [this]
theorem denseF_false {u : List Int} {j : Nat} (hj : j < u.length) (h : u[j]! ≠ j) : denseF u = false := by
  unfold denseF
  rw [beq_eq_false_iff_ne]
  intro e
  apply h
  have e2 : u[j]? = ((List.range u.length).map fun i : Nat => (i : Int))[j]? := by rw [← e]
  simp [hj] at e2
  simp [hj, e2]
theorem C12 (l : List Seg) (hl : l.length ≤ 40) : Ctr Try.prog 12 [.sl (l.map encS)] [] (ret [.sl ((usedF l).map encN)]) := by
  apply ctr_b A12_ok rfl (Nat.le_of_ble_eq_true rfl)
  unfold A12
  simp only [initL, Nat.reduceAdd]
  simp (config := {maxSteps := 2000000, implicitDefEqProofs := false}) (disch := omega) only [↓reduceIte, go_sem, Int.reduceToNat, Nat.reduceAdd, Nat.reduceLeDiff, Nat.reduceEqDiff, Nat.reduceSub, Nat.reduceMul, reduceCtorEq]
  refine callL (C25 l hl) ?_
  have hlen := srt_len l
  unfold usedF
  generalize srtT l = S at hlen
  simp (config := {maxSteps := 2000000, implicitDefEqProofs := false}) (disch := omega) only [↓reduceIte, go_sem, Int.reduceToNat, Nat.reduceAdd, Nat.reduceLeDiff, Nat.reduceEqDiff, Nat.reduceSub, Nat.reduceMul, reduceCtorEq]
  refine loopL (σ := Nat × List Int) (fun s => ⟨[(3, .hs 3 s.2.length 0 s.2.length), (7, .sl (S.map encT)), (8, .int .i64 S.length), (9, .int .i64 s.1)], [(3, .arr s.2.length 1 (s.2.map encN))]⟩)
    (fun s => s.1 ≤ S.length ∧ s.2.length ≤ s.1 ∧ dd [] S = s.2 ++ dd s.2 (S.drop s.1)) (fun s => S.length - s.1) (0, []) (by simp (config := {maxSteps := 2000000, implicitDefEqProofs := false}) (disch := omega) only [↓reduceIte, go_sem, Int.reduceToNat, Nat.reduceAdd, Nat.reduceLeDiff, Nat.reduceEqDiff, Nat.reduceSub, Nat.reduceMul, reduceCtorEq]; rfl) ⟨by simp, by simp, by simp⟩ ?_
  rintro ⟨i, out⟩ ⟨h1, h2, h3⟩
  simp only at h1 h2 h3
  simp (config := {maxSteps := 2000000, implicitDefEqProofs := false}) (disch := omega) only [↓reduceIte, go_sem, Int.reduceToNat, Nat.reduceAdd, Nat.reduceLeDiff, Nat.reduceEqDiff, Nat.reduceSub, Nat.reduceMul, reduceCtorEq]
  refine ifD (fun c => ?_) (fun c => ?_)
  · have hi : i < S.length := by omega
    have hg : (S.map encT)[i]? = some (encS S[i]!.1) := by rw [List.getElem?_map, bangT hi]; rfl
    have hd : S.drop i = S[i]! :: S.drop (i + 1) := by
      rw [List.drop_eq_getElem_cons hi]
      simp [hi]
    rw [hd] at h3
    generalize S[i]! = t at hg h3
    simp only [encS] at hg
    simp (config := {maxSteps := 2000000, implicitDefEqProofs := false}) (disch := omega) only [↓reduceIte, go_sem, Int.reduceToNat, Nat.reduceAdd, Nat.reduceLeDiff, Nat.reduceEqDiff, Nat.reduceSub, Nat.reduceMul, reduceCtorEq, hg]
    have hc := C26 out t.1.loc.n (by omega)
    rw [dd_cons] at h3
    refine ifE (fun e => ?_) (fun e => ?_)
    · simp (config := {maxSteps := 2000000, implicitDefEqProofs := false}) (disch := omega) only [↓reduceIte, go_sem, Int.reduceToNat, Nat.reduceAdd, Nat.reduceLeDiff, Nat.reduceEqDiff, Nat.reduceSub, Nat.reduceMul, reduceCtorEq]
      refine callL hc ?_
      simp (config := {maxSteps := 2000000, implicitDefEqProofs := false}) (disch := omega) only [↓reduceIte, go_sem, Int.reduceToNat, Nat.reduceAdd, Nat.reduceLeDiff, Nat.reduceEqDiff, Nat.reduceSub, Nat.reduceMul, reduceCtorEq]
      refine ifB (fun b => ?_) (fun b => ?_)
      · simp (config := {maxSteps := 2000000, implicitDefEqProofs := false}) (disch := omega) only [↓reduceIte, go_sem, Int.reduceToNat, Nat.reduceAdd, Nat.reduceLeDiff, Nat.reduceEqDiff, Nat.reduceSub, Nat.reduceMul, reduceCtorEq]
        refine ⟨(i + 1, out), by simp, ⟨by simp only; omega, by simp only; omega, ?_⟩, by simp only; omega⟩
        rw [b] at h3
        simpa using h3
      · simp (config := {maxSteps := 2000000, implicitDefEqProofs := false}) (disch := omega) only [↓reduceIte, go_sem, Int.reduceToNat, Nat.reduceAdd, Nat.reduceLeDiff, Nat.reduceEqDiff, Nat.reduceSub, Nat.reduceMul, reduceCtorEq]
        refine ⟨(i + 1, out ++ [t.1.loc.n]), ?_, ⟨by simp only; omega, by simp; omega, ?_⟩, by simp only; omega⟩
        · simp [encN]
        · rw [b] at h3
          simpa [slotB, e] using h3
    · simp (config := {maxSteps := 2000000, implicitDefEqProofs := false}) (disch := omega) only [↓reduceIte, go_sem, Int.reduceToNat, Nat.reduceAdd, Nat.reduceLeDiff, Nat.reduceEqDiff, Nat.reduceSub, Nat.reduceMul, reduceCtorEq]
      refine ⟨(i + 1, out), by simp, ⟨by simp only; omega, by simp only; omega, ?_⟩, by simp only; omega⟩
      simpa [slotB, e] using h3
  · have hi : i = S.length := by omega
    subst hi
    simp (config := {maxSteps := 2000000, implicitDefEqProofs := false}) (disch := omega) only [↓reduceIte, go_sem, Int.reduceToNat, Nat.reduceAdd, Nat.reduceLeDiff, Nat.reduceEqDiff, Nat.reduceSub, Nat.reduceMul, reduceCtorEq]
    refine ⟨?_, rfl⟩
    rw [h3]
    simp [dd]
theorem C13 (l : List Seg) (hl : l.length ≤ 40) : Ctr Try.prog 13 [.sl (l.map encS)] [] (ret [.bool (denseF (usedF l))]) := by
  apply ctr_b A13_ok rfl (Nat.le_of_ble_eq_true rfl)
  unfold A13
  simp only [initL, Nat.reduceAdd]
  simp (config := {maxSteps := 2000000, implicitDefEqProofs := false}) (disch := omega) only [↓reduceIte, go_sem, Int.reduceToNat, Nat.reduceAdd, Nat.reduceLeDiff, Nat.reduceEqDiff, Nat.reduceSub, Nat.reduceMul, reduceCtorEq]
  refine callL (C12 l hl) ?_
  have hlen := usedF_len l
  generalize usedF l = u at hlen
  simp (config := {maxSteps := 2000000, implicitDefEqProofs := false}) (disch := omega) only [↓reduceIte, go_sem, Int.reduceToNat, Nat.reduceAdd, Nat.reduceLeDiff, Nat.reduceEqDiff, Nat.reduceSub, Nat.reduceMul, reduceCtorEq]
  refine loopL (σ := Nat) (fun s => ⟨[(6, .sl (u.map encN)), (7, .int .i64 u.length), (8, .int .i64 s)], []⟩) (fun s => s ≤ u.length ∧ ∀ j, j < s → u[j]! = j) (fun s => u.length - s) 0 (by simp (config := {maxSteps := 2000000, implicitDefEqProofs := false}) (disch := omega) only [↓reduceIte, go_sem, Int.reduceToNat, Nat.reduceAdd, Nat.reduceLeDiff, Nat.reduceEqDiff, Nat.reduceSub, Nat.reduceMul, reduceCtorEq]; rfl) ⟨by omega, fun j hj => by omega⟩ ?_
  rintro s ⟨h1, h2⟩
  simp (config := {maxSteps := 2000000, implicitDefEqProofs := false}) (disch := omega) only [↓reduceIte, go_sem, Int.reduceToNat, Nat.reduceAdd, Nat.reduceLeDiff, Nat.reduceEqDiff, Nat.reduceSub, Nat.reduceMul, reduceCtorEq]
  refine ifD (fun c => ?_) (fun c => ?_)
  · have hs : s < u.length := by omega
    have hg := enc_get hs
    simp (config := {maxSteps := 2000000, implicitDefEqProofs := false}) (disch := omega) only [↓reduceIte, go_sem, Int.reduceToNat, Nat.reduceAdd, Nat.reduceLeDiff, Nat.reduceEqDiff, Nat.reduceSub, Nat.reduceMul, reduceCtorEq, hg]
    refine ifE (fun e => ?_) (fun e => ?_)
    · simp (config := {maxSteps := 2000000, implicitDefEqProofs := false}) (disch := omega) only [↓reduceIte, go_sem, Int.reduceToNat, Nat.reduceAdd, Nat.reduceLeDiff, Nat.reduceEqDiff, Nat.reduceSub, Nat.reduceMul, reduceCtorEq]
      refine ⟨s + 1, by simp, ⟨by omega, fun j hj => ?_⟩, by omega⟩
      by_cases hjs : j = s
      · subst hjs; omega
      · exact h2 j (by omega)
    · simp (config := {maxSteps := 2000000, implicitDefEqProofs := false}) (disch := omega) only [↓reduceIte, go_sem, Int.reduceToNat, Nat.reduceAdd, Nat.reduceLeDiff, Nat.reduceEqDiff, Nat.reduceSub, Nat.reduceMul, reduceCtorEq]
      refine ⟨?_, rfl⟩
      rw [denseF_false hs (by omega)]
  · simp (config := {maxSteps := 2000000, implicitDefEqProofs := false}) (disch := omega) only [↓reduceIte, go_sem, Int.reduceToNat, Nat.reduceAdd, Nat.reduceLeDiff, Nat.reduceEqDiff, Nat.reduceSub, Nat.reduceMul, reduceCtorEq]
    refine ⟨?_, rfl⟩
    rw [denseF_true fun j hj => h2 j (by omega)]
theorem C14 (l : List Seg) (hl : l.length ≤ 40) (h9 : Ctr Try.prog 9 [.sl (l.map encS)] [] (ret [.sl ((usedF l).map encN)])) : Ctr Try.prog 14 [.sl (l.map encS)] [] (ret [.bool (denseF (usedF l))]) := by
  apply ctr_b A14_ok rfl (Nat.le_of_ble_eq_true rfl)
  unfold A14
  simp only [initL, Nat.reduceAdd]
  simp (config := {maxSteps := 2000000, implicitDefEqProofs := false}) (disch := omega) only [↓reduceIte, go_sem, Int.reduceToNat, Nat.reduceAdd, Nat.reduceLeDiff, Nat.reduceEqDiff, Nat.reduceSub, Nat.reduceMul, reduceCtorEq]
  refine callL h9 ?_
  have hlen := usedF_len l
  clear h9
  generalize usedF l = u at hlen
  simp (config := {maxSteps := 2000000, implicitDefEqProofs := false}) (disch := omega) only [↓reduceIte, go_sem, Int.reduceToNat, Nat.reduceAdd, Nat.reduceLeDiff, Nat.reduceEqDiff, Nat.reduceSub, Nat.reduceMul, reduceCtorEq]
  refine loopL (σ := Nat) (fun s => ⟨[(3, .sl (u.map encN)), (4, .int .i64 s)], []⟩) (fun s => s ≤ u.length ∧ ∀ j, j < s → u[j]! = j) (fun s => u.length - s) 0 (by simp (config := {maxSteps := 2000000, implicitDefEqProofs := false}) (disch := omega) only [↓reduceIte, go_sem, Int.reduceToNat, Nat.reduceAdd, Nat.reduceLeDiff, Nat.reduceEqDiff, Nat.reduceSub, Nat.reduceMul, reduceCtorEq]; rfl) ⟨by omega, fun j hj => by omega⟩ ?_
  rintro s ⟨h1, h2⟩
  simp (config := {maxSteps := 2000000, implicitDefEqProofs := false}) (disch := omega) only [↓reduceIte, go_sem, Int.reduceToNat, Nat.reduceAdd, Nat.reduceLeDiff, Nat.reduceEqDiff, Nat.reduceSub, Nat.reduceMul, reduceCtorEq]
  refine ifD (fun c => ?_) (fun c => ?_)
  · have hs : s < u.length := by omega
    have hg := enc_get hs
    simp (config := {maxSteps := 2000000, implicitDefEqProofs := false}) (disch := omega) only [↓reduceIte, go_sem, Int.reduceToNat, Nat.reduceAdd, Nat.reduceLeDiff, Nat.reduceEqDiff, Nat.reduceSub, Nat.reduceMul, reduceCtorEq, hg]
    refine ifE (fun e => ?_) (fun e => ?_)
    · simp (config := {maxSteps := 2000000, implicitDefEqProofs := false}) (disch := omega) only [↓reduceIte, go_sem, Int.reduceToNat, Nat.reduceAdd, Nat.reduceLeDiff, Nat.reduceEqDiff, Nat.reduceSub, Nat.reduceMul, reduceCtorEq]
      refine ⟨s + 1, by simp, ⟨by omega, fun j hj => ?_⟩, by omega⟩
      by_cases hjs : j = s
      · subst hjs; omega
      · exact h2 j (by omega)
    · simp (config := {maxSteps := 2000000, implicitDefEqProofs := false}) (disch := omega) only [↓reduceIte, go_sem, Int.reduceToNat, Nat.reduceAdd, Nat.reduceLeDiff, Nat.reduceEqDiff, Nat.reduceSub, Nat.reduceMul, reduceCtorEq]
      refine ⟨?_, rfl⟩
      rw [denseF_false hs (by omega)]
  · simp (config := {maxSteps := 2000000, implicitDefEqProofs := false}) (disch := omega) only [↓reduceIte, go_sem, Int.reduceToNat, Nat.reduceAdd, Nat.reduceLeDiff, Nat.reduceEqDiff, Nat.reduceSub, Nat.reduceMul, reduceCtorEq]
    refine ⟨?_, rfl⟩
    rw [denseF_true fun j hj => h2 j (by omega)]
end Go.Proofs.Ytcpjfjdlifjbhaa.X
namespace Go.Proofs.Ytcpjfjdlifjbhaa.X
open Go Go.AM Go.Proofs
attribute [local go_sem ↓] w_skip w_lbl w_ops w_draw w_pre w_post w_alt w_seq w_cond w_block w_loop w_exit w_ret w_scope w_rfunc l_nil l_cons th_n th_e th_r bk_n bk_r bk_e t_nil t_it t_call i_nil i_one i_grp s_nil s_cons c_call e_mv e_nil e_frz o_mov o_bin o_eq o_un o_conv o_len o_slen o_idx o_aix o_fad o_load o_store o_boxp o_boxo o_boxm o_alloc o_alloca o_nilarr o_build o_bslp o_bslo o_slc o_sslc o_slc3 o_sidx o_mkfn o_ext o_pick o_callf o_callb o_appd o_clear o_mxn o_field o_nilc o_make o_buildm o_boxg o_mkif o_tass o_eqs o_callo k_int k_str k_bool k_grb k_grt k_some k_none k_arr k_lens k_lenf k_lenh k_idxs k_idxf k_idxh k_ld k_loadp k_loadr k_loade k_storer k_storee k_oin k_ois k_slcs k_slcf k_slch k_slc3s k_slc3f k_slc3h k_app2 k_apps k_appf k_apph k_cals k_cald k_cali k_cnb k_cna k_esn k_esc k_efn k_efc k_esh b_add b_sub b_mul b_quo b_rem b_and b_or b_xor b_andNot b_eql b_neq b_lss b_leq b_gtr b_geq b_shl b_shr b_seq b_sne b_slt b_sad q_bool q_str q_nil q_nilf u_not u_neg u_xor f_ret f_nor v_r v_c v_reg v_ob v_set v_put v_so v_sn v_pn v_pc g_nil d_nil p_nil m_mv m_fr z_nil z_cons z_an z_ac g_cons d_cons p_cons y_mov y_bin y_eq y_un y_conv y_len y_slen y_idx y_aix y_fad y_load y_store y_boxp y_boxo y_boxm y_alloc y_alloca y_nilarr y_build y_bslp y_bslo y_slc y_sslc y_slc3 y_sidx y_mkfn y_ext y_pick y_callf y_callb y_appd y_clear y_mxn y_field y_nilc y_make y_buildm y_boxg y_mkif y_tass y_eqs y_callo nb_if
attribute [local go_sem] VL_mk VL2_mk If_t If_f If_not If_and If_or If_dt If_df If_et If_ef If_ne Ck_t Ck_h Opt_s ld_a ld_c renL ren keepR renA idxM invL getObs mapOb renOb allNone putAll fzR fzO fz fzL fzOb frzOk upFrom mapR resOne resA cellsOf oneA oneAL isP isPL okSt kRows kParts fillA setAt bor bor0 bor1 bor2 borC borI key0 key1 key2 keysA fillM cellsM cellM unif ptrA ifOk kPartsM getObsM allNoneM zipU scal0 scalar eqC evNil evNilF List.map_cons List.map_nil List.cons_append List.nil_append List.append_nil List.drop_zero List.drop_succ_cons List.drop_nil List.take_succ_cons List.take_zero List.take_nil List.length_cons List.length_nil List.length_map List.getElem?_map Option.map_some Option.map_none Int.toNat_natCast Int.toNat_zero Int.toNat_one Int.natCast_nonneg List.flatMap_cons List.flatMap_nil List.all_cons List.all_nil Bool.and_true Bool.true_and Bool.and_false Bool.false_and Bool.not_true Bool.not_false beq_self_eq_true nb_self all_nil List.forall_mem_cons tk_map tk_app bs_self bs_dec bq_t bq_f Bool.not_not decide_true decide_false Bool.not_not and_self and_true true_and eq_self List.reverse_cons List.reverse_nil List.getElem?_cons_zero List.getElem?_cons_succ cond_true cond_false List.set_cons_zero List.set_cons_succ Nat.zero_add Nat.add_zero if_true if_false ite_true ite_false implies_true wrap64 wrap8
set_option linter.unusedVariables false
set_option linter.unusedSimpArgs false
set_option maxRecDepth 10000
theorem find_hit {α : Type} {p : α → Bool} {l : List α} {i : Nat} {x : α} (h : l[i]? = some x) (hp : p x = true) (hb : ∀ j y, j < i → l[j]? = some y → p y = false) : l.find? p = some x := by
  have hi := (List.getElem?_eq_some_iff.1 h).1
  have : l = l.take i ++ x :: l.drop (i + 1) := by
    have e : x = l[i] := by rw [List.getElem?_eq_getElem hi] at h; cases h; rfl
    rw [e, ← List.drop_eq_getElem_cons hi, List.take_append_drop]
  rw [this, List.find?_append]
  have h1 : (l.take i).find? p = none := by
    rw [List.find?_eq_none]
    intro y hy
    obtain ⟨j, hj⟩ := List.getElem?_of_mem hy
    rw [List.getElem?_take] at hj
    split at hj
    · rename_i hji
      rw [hb j y hji hj]
      simp
    · cases hj
  rw [h1]
  simp [hp]
theorem find_no {α : Type} {p : α → Bool} {l : List α} (h : ∀ j y, j < l.length → l[j]? = some y → p y = false) : l.find? p = none := by
  rw [List.find?_eq_none]
  intro y hy
  obtain ⟨j, hj⟩ := List.getElem?_of_mem hy
  rw [h j y (List.getElem?_eq_some_iff.1 hj).1 hj]
  simp
theorem seg_get {l : List Seg} {i : Nat} (h : i < l.length) : Option.map encS l[i]? = some (encS l[i]!) := by simp [h]
theorem bangS {l : List Seg} {i : Nat} (h : i < l.length) : l[i]? = some l[i]! := by simp [h]
def homeF (l : List Seg) (v : Int) : Option Seg := l.find? fun s => s.v == v && slotB s
def homeN (l : List Seg) (v : Int) : Int := match homeF l v with | some s => s.loc.n | none => 0
theorem homeN_some {l : List Seg} {v : Int} {s : Seg} (h : homeF l v = some s) : homeN l v = s.loc.n := by unfold homeN; rw [h]
theorem homeN_none {l : List Seg} {v : Int} (h : homeF l v = none) : homeN l v = 0 := by unfold homeN; rw [h]
theorem C6 (l : List Seg) (v : Int) (hl : l.length < 1000000) : Ctr Try.prog 6 [.sl (l.map encS), .int .i64 v] [] (ret [.int .i64 (homeN l v), .bool (homeF l v).isSome]) := by
  apply ctr_b A6_ok rfl (Nat.le_of_ble_eq_true rfl)
  unfold A6
  simp only [initL, Nat.reduceAdd]
  simp (config := {maxSteps := 2000000, implicitDefEqProofs := false}) (disch := omega) only [↓reduceIte, go_sem, Int.reduceToNat, Nat.reduceAdd, Nat.reduceLeDiff, Nat.reduceEqDiff, Nat.reduceSub, Nat.reduceMul, reduceCtorEq]
  refine loopL (σ := Nat) (fun s => ⟨[(1, .int .i64 v), (8, .sl (l.map encS)), (9, .int .i64 l.length), (10, .int .i64 s)], []⟩) (fun s => s ≤ l.length ∧ ∀ j y, j < s → l[j]? = some y → (y.v == v && slotB y) = false) (fun s => l.length - s) 0 (by simp (config := {maxSteps := 2000000, implicitDefEqProofs := false}) (disch := omega) only [↓reduceIte, go_sem, Int.reduceToNat, Nat.reduceAdd, Nat.reduceLeDiff, Nat.reduceEqDiff, Nat.reduceSub, Nat.reduceMul, reduceCtorEq]; rfl) ⟨by omega, fun j y hj => by omega⟩ ?_
  rintro s ⟨h1, h2⟩
  simp (config := {maxSteps := 2000000, implicitDefEqProofs := false}) (disch := omega) only [↓reduceIte, go_sem, Int.reduceToNat, Nat.reduceAdd, Nat.reduceLeDiff, Nat.reduceEqDiff, Nat.reduceSub, Nat.reduceMul, reduceCtorEq]
  refine ifD (fun c => ?_) (fun c => ?_)
  · have hs : s < l.length := by omega
    have hg := seg_get hs
    have hb := bangS hs
    generalize l[s]! = x at hg hb
    simp only [encS] at hg
    simp (config := {maxSteps := 2000000, implicitDefEqProofs := false}) (disch := omega) only [↓reduceIte, go_sem, Int.reduceToNat, Nat.reduceAdd, Nat.reduceLeDiff, Nat.reduceEqDiff, Nat.reduceSub, Nat.reduceMul, reduceCtorEq, hg]
    have next : (x.v == v && slotB x) = false → ∀ j y, j < s + 1 → l[j]? = some y → (y.v == v && slotB y) = false := by
      intro hx j y hj hy
      by_cases hjs : j = s
      · subst hjs
        rw [hb] at hy
        cases hy
        exact hx
      · exact h2 j y (by omega) hy
    refine ifE (fun e => ?_) (fun e => ?_)
    · simp (config := {maxSteps := 2000000, implicitDefEqProofs := false}) (disch := omega) only [↓reduceIte, go_sem, Int.reduceToNat, Nat.reduceAdd, Nat.reduceLeDiff, Nat.reduceEqDiff, Nat.reduceSub, Nat.reduceMul, reduceCtorEq]
      refine ifE (fun e2 => ?_) (fun e2 => ?_)
      · simp (config := {maxSteps := 2000000, implicitDefEqProofs := false}) (disch := omega) only [↓reduceIte, go_sem, Int.reduceToNat, Nat.reduceAdd, Nat.reduceLeDiff, Nat.reduceEqDiff, Nat.reduceSub, Nat.reduceMul, reduceCtorEq]
        have := find_hit (p := fun s => s.v == v && slotB s) hb (by simp [e, slotB, e2]) h2
        exact ⟨by rw [homeN_some this, show homeF l v = some x from this]; rfl, rfl⟩
      · simp (config := {maxSteps := 2000000, implicitDefEqProofs := false}) (disch := omega) only [↓reduceIte, go_sem, Int.reduceToNat, Nat.reduceAdd, Nat.reduceLeDiff, Nat.reduceEqDiff, Nat.reduceSub, Nat.reduceMul, reduceCtorEq]
        exact ⟨s + 1, by simp, ⟨by omega, next (by simp [slotB, e2])⟩, by omega⟩
    · simp (config := {maxSteps := 2000000, implicitDefEqProofs := false}) (disch := omega) only [↓reduceIte, go_sem, Int.reduceToNat, Nat.reduceAdd, Nat.reduceLeDiff, Nat.reduceEqDiff, Nat.reduceSub, Nat.reduceMul, reduceCtorEq]
      exact ⟨s + 1, by simp, ⟨by omega, next (by simp [e])⟩, by omega⟩
  · simp (config := {maxSteps := 2000000, implicitDefEqProofs := false}) (disch := omega) only [↓reduceIte, go_sem, Int.reduceToNat, Nat.reduceAdd, Nat.reduceLeDiff, Nat.reduceEqDiff, Nat.reduceSub, Nat.reduceMul, reduceCtorEq]
    have := find_no (p := fun s => s.v == v && slotB s) fun j y hj hy => h2 j y (by omega) hy
    exact ⟨by rw [homeN_none this, show homeF l v = none from this]; rfl, rfl⟩
theorem C7 (l : List Seg) (v : Int) (hl : l.length < 1000000) : Ctr Try.prog 7 [.sl (l.map encS), .int .i64 v] [] (ret [.int .i64 (homeN l v), .bool (homeF l v).isSome]) := by
  apply ctr_b A7_ok rfl (Nat.le_of_ble_eq_true rfl)
  unfold A7
  simp only [initL, Nat.reduceAdd]
  simp (config := {maxSteps := 2000000, implicitDefEqProofs := false}) (disch := omega) only [↓reduceIte, go_sem, Int.reduceToNat, Nat.reduceAdd, Nat.reduceLeDiff, Nat.reduceEqDiff, Nat.reduceSub, Nat.reduceMul, reduceCtorEq]
  refine loopL (σ := Nat) (fun s => ⟨[(0, .sl (l.map encS)), (1, .int .i64 v), (6, .int .i64 s)], []⟩) (fun s => s ≤ l.length ∧ ∀ j y, j < s → l[j]? = some y → (y.v == v && slotB y) = false) (fun s => l.length - s) 0 (by simp (config := {maxSteps := 2000000, implicitDefEqProofs := false}) (disch := omega) only [↓reduceIte, go_sem, Int.reduceToNat, Nat.reduceAdd, Nat.reduceLeDiff, Nat.reduceEqDiff, Nat.reduceSub, Nat.reduceMul, reduceCtorEq]; rfl) ⟨by omega, fun j y hj => by omega⟩ ?_
  rintro s ⟨h1, h2⟩
  simp (config := {maxSteps := 2000000, implicitDefEqProofs := false}) (disch := omega) only [↓reduceIte, go_sem, Int.reduceToNat, Nat.reduceAdd, Nat.reduceLeDiff, Nat.reduceEqDiff, Nat.reduceSub, Nat.reduceMul, reduceCtorEq]
  refine ifD (fun c => ?_) (fun c => ?_)
  · have hs : s < l.length := by omega
    have hg := seg_get hs
    have hb := bangS hs
    generalize l[s]! = x at hg hb
    simp only [encS] at hg
    simp (config := {maxSteps := 2000000, implicitDefEqProofs := false}) (disch := omega) only [↓reduceIte, go_sem, Int.reduceToNat, Nat.reduceAdd, Nat.reduceLeDiff, Nat.reduceEqDiff, Nat.reduceSub, Nat.reduceMul, reduceCtorEq, hg]
    have next : (x.v == v && slotB x) = false → ∀ j y, j < s + 1 → l[j]? = some y → (y.v == v && slotB y) = false := by
      intro hx j y hj hy
      by_cases hjs : j = s
      · subst hjs
        rw [hb] at hy
        cases hy
        exact hx
      · exact h2 j y (by omega) hy
    refine ifE (fun e => ?_) (fun e => ?_)
    · simp (config := {maxSteps := 2000000, implicitDefEqProofs := false}) (disch := omega) only [↓reduceIte, go_sem, Int.reduceToNat, Nat.reduceAdd, Nat.reduceLeDiff, Nat.reduceEqDiff, Nat.reduceSub, Nat.reduceMul, reduceCtorEq, hg]
      refine ifE (fun e2 => ?_) (fun e2 => ?_)
      · simp (config := {maxSteps := 2000000, implicitDefEqProofs := false}) (disch := omega) only [↓reduceIte, go_sem, Int.reduceToNat, Nat.reduceAdd, Nat.reduceLeDiff, Nat.reduceEqDiff, Nat.reduceSub, Nat.reduceMul, reduceCtorEq, hg]
        have := find_hit (p := fun s => s.v == v && slotB s) hb (by simp [e, slotB, e2]) h2
        exact ⟨by rw [homeN_some this, show homeF l v = some x from this]; rfl, rfl⟩
      · simp (config := {maxSteps := 2000000, implicitDefEqProofs := false}) (disch := omega) only [↓reduceIte, go_sem, Int.reduceToNat, Nat.reduceAdd, Nat.reduceLeDiff, Nat.reduceEqDiff, Nat.reduceSub, Nat.reduceMul, reduceCtorEq]
        exact ⟨s + 1, by simp, ⟨by omega, next (by simp [slotB, e2])⟩, by omega⟩
    · simp (config := {maxSteps := 2000000, implicitDefEqProofs := false}) (disch := omega) only [↓reduceIte, go_sem, Int.reduceToNat, Nat.reduceAdd, Nat.reduceLeDiff, Nat.reduceEqDiff, Nat.reduceSub, Nat.reduceMul, reduceCtorEq]
      exact ⟨s + 1, by simp, ⟨by omega, next (by simp [e])⟩, by omega⟩
  · simp (config := {maxSteps := 2000000, implicitDefEqProofs := false}) (disch := omega) only [↓reduceIte, go_sem, Int.reduceToNat, Nat.reduceAdd, Nat.reduceLeDiff, Nat.reduceEqDiff, Nat.reduceSub, Nat.reduceMul, reduceCtorEq]
    have := find_no (p := fun s => s.v == v && slotB s) fun j y hj hy => h2 j y (by omega) hy
    exact ⟨by rw [homeN_none this, show homeF l v = none from this]; rfl, rfl⟩
/-- slices.IndexFunc, by a function that tells p. -/
theorem C20 (f : Nat) (caps : List AV) (p : Seg → Bool) (l : List Seg) (hc : isPL caps = true) (hl : l.length < 1000000) (h : ∀ s ∈ l, Ctr Try.prog f (.agg (encS s) :: caps) [] (ret [.bool (p s)])) : Ctr Try.prog 20 [.sl (l.map encS), .fn f caps] [] (ret [.int .i64 (ixF p l)]) := by
  apply ctr_b A20_ok rfl (Nat.le_of_ble_eq_true rfl)
  unfold A20
  simp only [initL, Nat.reduceAdd]
  simp (config := {maxSteps := 2000000, implicitDefEqProofs := false}) (disch := omega) only [↓reduceIte, go_sem, Int.reduceToNat, Nat.reduceAdd, Nat.reduceLeDiff, Nat.reduceEqDiff, Nat.reduceSub, Nat.reduceMul, reduceCtorEq, hc, renL_pure hc]
  refine loopL (σ := Nat) (fun s => ⟨[(0, .sl (l.map encS)), (1, .fn f caps), (7, .int .i64 l.length), (8, .int .i64 s)], []⟩) (fun s => s ≤ l.length ∧ ∀ j y, j < s → l[j]? = some y → p y = false) (fun s => l.length - s) 0 (by simp (config := {maxSteps := 2000000, implicitDefEqProofs := false}) (disch := omega) only [↓reduceIte, go_sem, Int.reduceToNat, Nat.reduceAdd, Nat.reduceLeDiff, Nat.reduceEqDiff, Nat.reduceSub, Nat.reduceMul, reduceCtorEq, hc, renL_pure hc]; rfl) ⟨by omega, fun j y hj => by omega⟩ ?_
  rintro s ⟨h1, h2⟩
  simp (config := {maxSteps := 2000000, implicitDefEqProofs := false}) (disch := omega) only [↓reduceIte, go_sem, Int.reduceToNat, Nat.reduceAdd, Nat.reduceLeDiff, Nat.reduceEqDiff, Nat.reduceSub, Nat.reduceMul, reduceCtorEq, hc, renL_pure hc]
  refine ifD (fun c => ?_) (fun c => ?_)
  · have hs : s < l.length := by omega
    have hg := seg_get hs
    have hb := bangS hs
    have hx := h l[s]! (List.mem_of_getElem? hb)
    generalize l[s]! = x at hg hb hx
    simp only [encS] at hg hx
    simp (config := {maxSteps := 2000000, implicitDefEqProofs := false}) (disch := omega) only [↓reduceIte, go_sem, Int.reduceToNat, Nat.reduceAdd, Nat.reduceLeDiff, Nat.reduceEqDiff, Nat.reduceSub, Nat.reduceMul, reduceCtorEq, hg, hc, renL_pure hc]
    refine callL hx ?_
    simp (config := {maxSteps := 2000000, implicitDefEqProofs := false}) (disch := omega) only [↓reduceIte, go_sem, Int.reduceToNat, Nat.reduceAdd, Nat.reduceLeDiff, Nat.reduceEqDiff, Nat.reduceSub, Nat.reduceMul, reduceCtorEq, hg, hc, renL_pure hc]
    refine ifB (fun b => ?_) (fun b => ?_)
    · simp (config := {maxSteps := 2000000, implicitDefEqProofs := false}) (disch := omega) only [↓reduceIte, go_sem, Int.reduceToNat, Nat.reduceAdd, Nat.reduceLeDiff, Nat.reduceEqDiff, Nat.reduceSub, Nat.reduceMul, reduceCtorEq, hg, hc, renL_pure hc]
      exact ⟨by rw [ixF_hit (i := s) hb b h2], rfl⟩
    · simp (config := {maxSteps := 2000000, implicitDefEqProofs := false}) (disch := omega) only [↓reduceIte, go_sem, Int.reduceToNat, Nat.reduceAdd, Nat.reduceLeDiff, Nat.reduceEqDiff, Nat.reduceSub, Nat.reduceMul, reduceCtorEq, hg, hc, renL_pure hc]
      refine ⟨s + 1, by simp, ⟨by omega, fun j y hj hy => ?_⟩, by omega⟩
      by_cases hjs : j = s
      · subst hjs
        rw [hb] at hy
        cases hy
        exact b
      · exact h2 j y (by omega) hy
  · simp (config := {maxSteps := 2000000, implicitDefEqProofs := false}) (disch := omega) only [↓reduceIte, go_sem, Int.reduceToNat, Nat.reduceAdd, Nat.reduceLeDiff, Nat.reduceEqDiff, Nat.reduceSub, Nat.reduceMul, reduceCtorEq, hc, renL_pure hc]
    exact ⟨by rw [ixF_none fun j y hj hy => h2 j y (by omega) hy], rfl⟩
def strayB (l : List Seg) (s : Seg) : Bool := slotB s && !(s.loc.n == homeN l s.v)
theorem C27 (l : List Seg) (s : Seg) (hl : l.length < 1000000) : Ctr Try.prog 27 [.agg (encS s), .rp [.sl (l.map encS)]] [] (ret [.bool (strayB l s)]) := by
  apply ctr_b A27_ok rfl (Nat.le_of_ble_eq_true rfl)
  unfold A27
  simp only [initL, Nat.reduceAdd, encS]
  simp (config := {maxSteps := 2000000, implicitDefEqProofs := false}) (disch := omega) only [↓reduceIte, go_sem, Int.reduceToNat, Nat.reduceAdd, Nat.reduceLeDiff, Nat.reduceEqDiff, Nat.reduceSub, Nat.reduceMul, reduceCtorEq]
  refine callL (C6 l s.v hl) ?_
  simp (config := {maxSteps := 2000000, implicitDefEqProofs := false}) (disch := omega) only [↓reduceIte, go_sem, Int.reduceToNat, Nat.reduceAdd, Nat.reduceLeDiff, Nat.reduceEqDiff, Nat.reduceSub, Nat.reduceMul, reduceCtorEq]
  refine ifE (fun e => ?_) (fun e => ?_)
  · simp (config := {maxSteps := 2000000, implicitDefEqProofs := false}) (disch := omega) only [↓reduceIte, go_sem, Int.reduceToNat, Nat.reduceAdd, Nat.reduceLeDiff, Nat.reduceEqDiff, Nat.reduceSub, Nat.reduceMul, reduceCtorEq]
    exact ⟨by simp [strayB, slotB, e, bne], rfl⟩
  · simp (config := {maxSteps := 2000000, implicitDefEqProofs := false}) (disch := omega) only [↓reduceIte, go_sem, Int.reduceToNat, Nat.reduceAdd, Nat.reduceLeDiff, Nat.reduceEqDiff, Nat.reduceSub, Nat.reduceMul, reduceCtorEq]
    exact ⟨by simp [strayB, slotB, e], rfl⟩
theorem C15 (l : List Seg) (hl : l.length < 1000000) : Ctr Try.prog 15 [.sl (l.map encS)] [] (ret [.int .i64 (ixF (strayB l) l)]) := by
  apply ctr_b A15_ok rfl (Nat.le_of_ble_eq_true rfl)
  unfold A15
  simp only [initL, Nat.reduceAdd]
  simp (config := {maxSteps := 2000000, implicitDefEqProofs := false}) (disch := omega) only [↓reduceIte, go_sem, Int.reduceToNat, Nat.reduceAdd, Nat.reduceLeDiff, Nat.reduceEqDiff, Nat.reduceSub, Nat.reduceMul, reduceCtorEq]
  refine callL (C20 27 _ (strayB l) l rfl hl fun s hs => C27 l s hl) ?_
  simp (config := {maxSteps := 2000000, implicitDefEqProofs := false}) (disch := omega) only [↓reduceIte, go_sem, Int.reduceToNat, Nat.reduceAdd, Nat.reduceLeDiff, Nat.reduceEqDiff, Nat.reduceSub, Nat.reduceMul, reduceCtorEq]
  exact ⟨rfl, rfl⟩
theorem C16 (l : List Seg) (hl : l.length < 1000000) : Ctr Try.prog 16 [.sl (l.map encS)] [] (ret [.int .i64 (ixF (strayB l) l)]) := by
  apply ctr_b A16_ok rfl (Nat.le_of_ble_eq_true rfl)
  unfold A16
  simp only [initL, Nat.reduceAdd]
  simp (config := {maxSteps := 2000000, implicitDefEqProofs := false}) (disch := omega) only [↓reduceIte, go_sem, Int.reduceToNat, Nat.reduceAdd, Nat.reduceLeDiff, Nat.reduceEqDiff, Nat.reduceSub, Nat.reduceMul, reduceCtorEq]
  refine loopL (σ := Nat) (fun s => ⟨[(0, .sl (l.map encS)), (3, .int .i64 s)], []⟩) (fun s => s ≤ l.length ∧ ∀ j y, j < s → l[j]? = some y → strayB l y = false) (fun s => l.length - s) 0 (by simp (config := {maxSteps := 2000000, implicitDefEqProofs := false}) (disch := omega) only [↓reduceIte, go_sem, Int.reduceToNat, Nat.reduceAdd, Nat.reduceLeDiff, Nat.reduceEqDiff, Nat.reduceSub, Nat.reduceMul, reduceCtorEq]; rfl) ⟨by omega, fun j y hj => by omega⟩ ?_
  rintro s ⟨h1, h2⟩
  simp (config := {maxSteps := 2000000, implicitDefEqProofs := false}) (disch := omega) only [↓reduceIte, go_sem, Int.reduceToNat, Nat.reduceAdd, Nat.reduceLeDiff, Nat.reduceEqDiff, Nat.reduceSub, Nat.reduceMul, reduceCtorEq]
  refine ifD (fun c => ?_) (fun c => ?_)
  · have hs : s < l.length := by omega
    have hg := seg_get hs
    have hb := bangS hs
    generalize l[s]! = x at hg hb
    simp only [encS] at hg
    simp (config := {maxSteps := 2000000, implicitDefEqProofs := false}) (disch := omega) only [↓reduceIte, go_sem, Int.reduceToNat, Nat.reduceAdd, Nat.reduceLeDiff, Nat.reduceEqDiff, Nat.reduceSub, Nat.reduceMul, reduceCtorEq, hg]
    refine callL (C7 l x.v hl) ?_
    simp (config := {maxSteps := 2000000, implicitDefEqProofs := false}) (disch := omega) only [↓reduceIte, go_sem, Int.reduceToNat, Nat.reduceAdd, Nat.reduceLeDiff, Nat.reduceEqDiff, Nat.reduceSub, Nat.reduceMul, reduceCtorEq, hg]
    have next : strayB l x = false → ∀ j y, j < s + 1 → l[j]? = some y → strayB l y = false := by
      intro hx j y hj hy
      by_cases hjs : j = s
      · subst hjs
        rw [hb] at hy
        cases hy
        exact hx
      · exact h2 j y (by omega) hy
    refine ifE (fun e => ?_) (fun e => ?_)
    · simp (config := {maxSteps := 2000000, implicitDefEqProofs := false}) (disch := omega) only [↓reduceIte, go_sem, Int.reduceToNat, Nat.reduceAdd, Nat.reduceLeDiff, Nat.reduceEqDiff, Nat.reduceSub, Nat.reduceMul, reduceCtorEq, hg]
      refine ifE (fun e2 => ?_) (fun e2 => ?_)
      · simp (config := {maxSteps := 2000000, implicitDefEqProofs := false}) (disch := omega) only [↓reduceIte, go_sem, Int.reduceToNat, Nat.reduceAdd, Nat.reduceLeDiff, Nat.reduceEqDiff, Nat.reduceSub, Nat.reduceMul, reduceCtorEq]
        exact ⟨s + 1, by simp, ⟨by omega, next (by simp [strayB, e2])⟩, by omega⟩
      · simp (config := {maxSteps := 2000000, implicitDefEqProofs := false}) (disch := omega) only [↓reduceIte, go_sem, Int.reduceToNat, Nat.reduceAdd, Nat.reduceLeDiff, Nat.reduceEqDiff, Nat.reduceSub, Nat.reduceMul, reduceCtorEq]
        exact ⟨by rw [ixF_hit (i := s) hb (by simp [strayB, slotB, e, e2]) h2], rfl⟩
    · simp (config := {maxSteps := 2000000, implicitDefEqProofs := false}) (disch := omega) only [↓reduceIte, go_sem, Int.reduceToNat, Nat.reduceAdd, Nat.reduceLeDiff, Nat.reduceEqDiff, Nat.reduceSub, Nat.reduceMul, reduceCtorEq]
      exact ⟨s + 1, by simp, ⟨by omega, next (by simp [strayB, slotB, e])⟩, by omega⟩
  · simp (config := {maxSteps := 2000000, implicitDefEqProofs := false}) (disch := omega) only [↓reduceIte, go_sem, Int.reduceToNat, Nat.reduceAdd, Nat.reduceLeDiff, Nat.reduceEqDiff, Nat.reduceSub, Nat.reduceMul, reduceCtorEq]
    exact ⟨by rw [ixF_none fun j y hj hy => h2 j y (by omega) hy], rfl⟩
end Go.Proofs.Ytcpjfjdlifjbhaa.X
namespace Go.Proofs.Ytcpjfjdlifjbhaa.X
open Go Go.AM Go.Proofs
attribute [local go_sem ↓] w_skip w_lbl w_ops w_draw w_pre w_post w_alt w_seq w_cond w_block w_loop w_exit w_ret w_scope w_rfunc l_nil l_cons th_n th_e th_r bk_n bk_r bk_e t_nil t_it t_call i_nil i_one i_grp s_nil s_cons c_call e_mv e_nil e_frz o_mov o_bin o_eq o_un o_conv o_len o_slen o_idx o_aix o_fad o_load o_store o_boxp o_boxo o_boxm o_alloc o_alloca o_nilarr o_build o_bslp o_bslo o_slc o_sslc o_slc3 o_sidx o_mkfn o_ext o_pick o_callf o_callb o_appd o_clear o_mxn o_field o_nilc o_make o_buildm o_boxg o_mkif o_tass o_eqs o_callo k_int k_str k_bool k_grb k_grt k_some k_none k_arr k_lens k_lenf k_lenh k_idxs k_idxf k_idxh k_ld k_loadp k_loadr k_loade k_storer k_storee k_oin k_ois k_slcs k_slcf k_slch k_slc3s k_slc3f k_slc3h k_app2 k_apps k_appf k_apph k_cals k_cald k_cali k_cnb k_cna k_esn k_esc k_efn k_efc k_esh b_add b_sub b_mul b_quo b_rem b_and b_or b_xor b_andNot b_eql b_neq b_lss b_leq b_gtr b_geq b_shl b_shr b_seq b_sne b_slt b_sad q_bool q_str q_nil q_nilf u_not u_neg u_xor f_ret f_nor v_r v_c v_reg v_ob v_set v_put v_so v_sn v_pn v_pc g_nil d_nil p_nil m_mv m_fr z_nil z_cons z_an z_ac g_cons d_cons p_cons y_mov y_bin y_eq y_un y_conv y_len y_slen y_idx y_aix y_fad y_load y_store y_boxp y_boxo y_boxm y_alloc y_alloca y_nilarr y_build y_bslp y_bslo y_slc y_sslc y_slc3 y_sidx y_mkfn y_ext y_pick y_callf y_callb y_appd y_clear y_mxn y_field y_nilc y_make y_buildm y_boxg y_mkif y_tass y_eqs y_callo nb_if
attribute [local go_sem] VL_mk VL2_mk If_t If_f If_not If_and If_or If_dt If_df If_et If_ef If_ne Ck_t Ck_h Opt_s ld_a ld_c renL ren keepR renA idxM invL getObs mapOb renOb allNone putAll fzR fzO fz fzL fzOb frzOk upFrom mapR resOne resA cellsOf oneA oneAL isP isPL okSt kRows kParts fillA setAt bor bor0 bor1 bor2 borC borI key0 key1 key2 keysA fillM cellsM cellM unif ptrA ifOk kPartsM getObsM allNoneM zipU scal0 scalar eqC evNil evNilF List.map_cons List.map_nil List.cons_append List.nil_append List.append_nil List.drop_zero List.drop_succ_cons List.drop_nil List.take_succ_cons List.take_zero List.take_nil List.length_cons List.length_nil List.length_map List.getElem?_map Option.map_some Option.map_none Int.toNat_natCast Int.toNat_zero Int.toNat_one Int.natCast_nonneg List.flatMap_cons List.flatMap_nil List.all_cons List.all_nil Bool.and_true Bool.true_and Bool.and_false Bool.false_and Bool.not_true Bool.not_false beq_self_eq_true nb_self all_nil List.forall_mem_cons tk_map tk_app bs_self bs_dec bq_t bq_f Bool.not_not decide_true decide_false Bool.not_not and_self and_true true_and eq_self List.reverse_cons List.reverse_nil List.getElem?_cons_zero List.getElem?_cons_succ cond_true cond_false List.set_cons_zero List.set_cons_succ Nat.zero_add Nat.add_zero if_true if_false ite_true ite_false implies_true wrap64 wrap8
set_option linter.unusedVariables false
set_option linter.unusedSimpArgs false
set_option maxRecDepth 10000
def atB (n : Int) (s : Seg) : Bool := slotB s && s.loc.n == n
def elseB (n v : Int) (s : Seg) : Bool := atB n s && !(s.v == v)
theorem C21 (n : Int) (s : Seg) : Ctr Try.prog 21 [.agg (encS s), .rp [.int .i64 n]] [] (ret [.bool (atB n s)]) := by
  apply ctr_b A21_ok rfl (Nat.le_of_ble_eq_true rfl)
  unfold A21
  simp only [initL, Nat.reduceAdd, encS]
  simp (config := {maxSteps := 2000000, implicitDefEqProofs := false}) (disch := omega) only [↓reduceIte, go_sem, Int.reduceToNat, Nat.reduceAdd, Nat.reduceLeDiff, Nat.reduceEqDiff, Nat.reduceSub, Nat.reduceMul, reduceCtorEq]
  refine ifE (fun e => ?_) (fun e => ?_)
  · simp (config := {maxSteps := 2000000, implicitDefEqProofs := false}) (disch := omega) only [↓reduceIte, go_sem, Int.reduceToNat, Nat.reduceAdd, Nat.reduceLeDiff, Nat.reduceEqDiff, Nat.reduceSub, Nat.reduceMul, reduceCtorEq]
    exact ⟨by simp [atB, slotB, e], rfl⟩
  · simp (config := {maxSteps := 2000000, implicitDefEqProofs := false}) (disch := omega) only [↓reduceIte, go_sem, Int.reduceToNat, Nat.reduceAdd, Nat.reduceLeDiff, Nat.reduceEqDiff, Nat.reduceSub, Nat.reduceMul, reduceCtorEq]
    exact ⟨by simp [atB, slotB, e], rfl⟩
theorem C23 (n v : Int) (s : Seg) : Ctr Try.prog 23 [.agg (encS s), .rp [.int .i64 n], .rp [.int .i64 v]] [] (ret [.bool (elseB n v s)]) := by
  apply ctr_b A23_ok rfl (Nat.le_of_ble_eq_true rfl)
  unfold A23
  simp only [initL, Nat.reduceAdd, encS]
  simp (config := {maxSteps := 2000000, implicitDefEqProofs := false}) (disch := omega) only [↓reduceIte, go_sem, Int.reduceToNat, Nat.reduceAdd, Nat.reduceLeDiff, Nat.reduceEqDiff, Nat.reduceSub, Nat.reduceMul, reduceCtorEq]
  refine ifE (fun e => ?_) (fun e => ?_)
  · simp (config := {maxSteps := 2000000, implicitDefEqProofs := false}) (disch := omega) only [↓reduceIte, go_sem, Int.reduceToNat, Nat.reduceAdd, Nat.reduceLeDiff, Nat.reduceEqDiff, Nat.reduceSub, Nat.reduceMul, reduceCtorEq]
    refine ifE (fun e2 => ?_) (fun e2 => ?_)
    · simp (config := {maxSteps := 2000000, implicitDefEqProofs := false}) (disch := omega) only [↓reduceIte, go_sem, Int.reduceToNat, Nat.reduceAdd, Nat.reduceLeDiff, Nat.reduceEqDiff, Nat.reduceSub, Nat.reduceMul, reduceCtorEq]
      exact ⟨by simp [elseB, atB, slotB, e, e2, bne], rfl⟩
    · simp (config := {maxSteps := 2000000, implicitDefEqProofs := false}) (disch := omega) only [↓reduceIte, go_sem, Int.reduceToNat, Nat.reduceAdd, Nat.reduceLeDiff, Nat.reduceEqDiff, Nat.reduceSub, Nat.reduceMul, reduceCtorEq]
      exact ⟨by simp [elseB, atB, slotB, e, e2], rfl⟩
  · simp (config := {maxSteps := 2000000, implicitDefEqProofs := false}) (disch := omega) only [↓reduceIte, go_sem, Int.reduceToNat, Nat.reduceAdd, Nat.reduceLeDiff, Nat.reduceEqDiff, Nat.reduceSub, Nat.reduceMul, reduceCtorEq]
    exact ⟨by simp [elseB, atB, slotB, e], rfl⟩
theorem C22 (f : Nat) (caps : List AV) (p : Seg → Bool) (l : List Seg) (hc : isPL caps = true) (hl : l.length < 1000000) (h : ∀ s ∈ l, Ctr Try.prog f (.agg (encS s) :: caps) [] (ret [.bool (p s)])) : Ctr Try.prog 22 [.sl (l.map encS), .fn f caps] [] (ret [.bool (l.any p)]) := by
  apply ctr_b A22_ok rfl (Nat.le_of_ble_eq_true rfl)
  unfold A22
  simp only [initL, Nat.reduceAdd]
  simp (config := {maxSteps := 2000000, implicitDefEqProofs := false}) (disch := omega) only [↓reduceIte, go_sem, Int.reduceToNat, Nat.reduceAdd, Nat.reduceLeDiff, Nat.reduceEqDiff, Nat.reduceSub, Nat.reduceMul, reduceCtorEq, hc, renL_pure hc]
  refine callL (C20 f caps p l hc hl h) ?_
  simp (config := {maxSteps := 2000000, implicitDefEqProofs := false}) (disch := omega) only [↓reduceIte, go_sem, Int.reduceToNat, Nat.reduceAdd, Nat.reduceLeDiff, Nat.reduceEqDiff, Nat.reduceSub, Nat.reduceMul, reduceCtorEq]
  exact ⟨by rw [ixF_nonneg], rfl⟩
def sevB (l : List Seg) (n : Int) : Bool := match l.find? (atB n) with | some s => l.any (elseB n s.v) | none => false
theorem ix_find {p : Seg → Bool} {l : List Seg} {s : Seg} (h : l.find? p = some s) : ∃ i, i < l.length ∧ l[i]? = some s ∧ ixF p l = i := by
  cases hf : l.findIdx? p with
  | none =>
    rw [List.findIdx?_eq_none_iff] at hf
    have := List.mem_of_find?_eq_some h
    have h2 := List.find?_some h
    rw [hf s this] at h2
    cases h2
  | some i =>
    have h2 := hf
    rw [List.findIdx?_eq_some_iff_getElem] at h2
    obtain ⟨hi, h3, h4⟩ := h2
    have := find_hit (p := p) (l := l) (i := i) (x := l[i]) (List.getElem?_eq_getElem hi) h3 (fun j y hj hy => by
      rw [List.getElem?_eq_getElem (by omega)] at hy
      cases hy
      simpa using h4 j hj)
    rw [this] at h
    cases h
    exact ⟨i, hi, List.getElem?_eq_getElem hi, by simp [ixF, hf]⟩
theorem C19 (l : List Seg) (n : Int) (s : Seg) (hl : l.length < 1000000) (h : l.find? (atB n) = some s) : Ctr Try.prog 19 [.int .i64 n, .rp [.sl (l.map encS)]] [] (ret [.int .i64 s.v, .bool (sevB l n)]) := by
  apply ctr_b A19_ok rfl (Nat.le_of_ble_eq_true rfl)
  unfold A19
  simp only [initL, Nat.reduceAdd]
  simp (config := {maxSteps := 2000000, implicitDefEqProofs := false}) (disch := omega) only [↓reduceIte, go_sem, Int.reduceToNat, Nat.reduceAdd, Nat.reduceLeDiff, Nat.reduceEqDiff, Nat.reduceSub, Nat.reduceMul, reduceCtorEq]
  refine callL (C20 21 _ (atB n) l rfl hl fun s hs => C21 n s) ?_
  obtain ⟨i, hi, hg, e⟩ := ix_find h
  have hg : Option.map encS l[i]? = some (encS s) := by rw [hg]; rfl
  simp only [encS] at hg
  rw [e]
  simp (config := {maxSteps := 2000000, implicitDefEqProofs := false}) (disch := omega) only [↓reduceIte, go_sem, Int.reduceToNat, Nat.reduceAdd, Nat.reduceLeDiff, Nat.reduceEqDiff, Nat.reduceSub, Nat.reduceMul, reduceCtorEq, hg]
  refine callL (C22 23 _ (elseB n s.v) l rfl hl fun s2 hs => C23 n s.v s2) ?_
  simp (config := {maxSteps := 2000000, implicitDefEqProofs := false}) (disch := omega) only [↓reduceIte, go_sem, Int.reduceToNat, Nat.reduceAdd, Nat.reduceLeDiff, Nat.reduceEqDiff, Nat.reduceSub, Nat.reduceMul, reduceCtorEq]
  refine accL (by kernel_rfl) ?_
  simp (config := {maxSteps := 2000000, implicitDefEqProofs := false}) (disch := omega) only [↓reduceIte, go_sem, Int.reduceToNat, Nat.reduceAdd, Nat.reduceLeDiff, Nat.reduceEqDiff, Nat.reduceSub, Nat.reduceMul, reduceCtorEq]
  exact ⟨by simp [sevB, h], rfl⟩
theorem sev_some {l : List Seg} {n : Int} (h : ∃ s ∈ l, atB n s = true) : ∃ s, l.find? (atB n) = some s := by
  obtain ⟨s, hs, hp⟩ := h
  have : (l.find? (atB n)).isSome = true := by rw [List.find?_isSome]; exact ⟨s, hs, hp⟩
  exact Option.isSome_iff_exists.1 this
theorem dd_slot : ∀ {S : List Tg} {seen : List Int} {n : Int}, n ∈ dd seen S → ∃ t ∈ S, slotB t.1 = true ∧ t.1.loc.n = n
  | [], seen, n, h => by simp [dd] at h
  | t :: S, seen, n, h => by
    rw [dd_cons] at h
    split at h
    · rename_i hc
      simp only [Bool.and_eq_true] at hc
      rcases List.mem_cons.1 h with rfl | h
      · exact ⟨t, by simp, hc.1, rfl⟩
      · obtain ⟨t2, h1, h2⟩ := dd_slot h
        exact ⟨t2, by simp [h1], h2⟩
    · obtain ⟨t2, h1, h2⟩ := dd_slot h
      exact ⟨t2, by simp [h1], h2⟩
theorem srt_mem {l : List Seg} {t : Tg} (h : t ∈ srtT l) : t.1 ∈ l := by
  have := (srt_perm l).mem_iff.1 h
  rw [List.mem_zipIdx_iff_getElem?] at this
  exact List.mem_of_getElem? this
theorem used_slot {l : List Seg} {n : Int} (h : n ∈ usedF l) : ∃ s ∈ l, atB n s = true := by
  obtain ⟨t, h1, h2, h3⟩ := dd_slot h
  exact ⟨t.1, srt_mem h1, by simp [atB, h2, h3]⟩
noncomputable def sharedF (l : List Seg) : List Int := ((usedF l).filter (sevB l)).mergeSort leI
theorem C8 (l : List Seg) (hl : l.length ≤ 40) : Ctr Try.prog 8 [.sl (l.map encS)] [] (ret [.sl ((sharedF l).map encN)]) := by
  apply ctr_b A8_ok rfl (Nat.le_of_ble_eq_true rfl)
  unfold A8
  simp only [initL, Nat.reduceAdd]
  simp (config := {maxSteps := 2000000, implicitDefEqProofs := false}) (disch := omega) only [↓reduceIte, go_sem, Int.reduceToNat, Nat.reduceAdd, Nat.reduceLeDiff, Nat.reduceEqDiff, Nat.reduceSub, Nat.reduceMul, reduceCtorEq]
  refine callL (C12 l hl) ?_
  have hlen := usedF_len l
  have hus : ∀ n ∈ usedF l, ∃ s, l.find? (atB n) = some s := fun n hn => sev_some (used_slot hn)
  unfold sharedF
  generalize usedF l = u at hlen hus
  simp (config := {maxSteps := 2000000, implicitDefEqProofs := false}) (disch := omega) only [↓reduceIte, go_sem, Int.reduceToNat, Nat.reduceAdd, Nat.reduceLeDiff, Nat.reduceEqDiff, Nat.reduceSub, Nat.reduceMul, reduceCtorEq]
  refine loopL (σ := Nat) (fun s => ⟨[(3, .fn 19 [.rp [.sl (l.map encS)]]), (4, .hs 4 ((u.take s).filter (sevB l)).length 0 ((u.take s).filter (sevB l)).length), (11, .sl (u.map encN)), (12, .int .i64 u.length), (13, .int .i64 s)], [(4, .arr ((u.take s).filter (sevB l)).length 1 (((u.take s).filter (sevB l)).map encN))]⟩)
    (fun s => s ≤ u.length) (fun s => u.length - s) 0 (by simp (config := {maxSteps := 2000000, implicitDefEqProofs := false}) (disch := omega) only [↓reduceIte, go_sem, Int.reduceToNat, Nat.reduceAdd, Nat.reduceLeDiff, Nat.reduceEqDiff, Nat.reduceSub, Nat.reduceMul, reduceCtorEq]; rfl) (Nat.zero_le _) ?_
  rintro s h1
  have hfl := List.length_filter_le (sevB l) (u.take s)
  rw [List.length_take] at hfl
  simp (config := {maxSteps := 2000000, implicitDefEqProofs := false}) (disch := omega) only [↓reduceIte, go_sem, Int.reduceToNat, Nat.reduceAdd, Nat.reduceLeDiff, Nat.reduceEqDiff, Nat.reduceSub, Nat.reduceMul, reduceCtorEq]
  refine ifD (fun c => ?_) (fun c => ?_)
  · have hs : s < u.length := by omega
    have hg := enc_get hs
    have ht : u.take (s + 1) = u.take s ++ [u[s]!] := by rw [List.take_add_one]; simp [hs]
    obtain ⟨x, hx⟩ := hus u[s]! (by simp [hs])
    generalize u[s]! = y at hg ht hx
    simp (config := {maxSteps := 2000000, implicitDefEqProofs := false}) (disch := omega) only [↓reduceIte, go_sem, Int.reduceToNat, Nat.reduceAdd, Nat.reduceLeDiff, Nat.reduceEqDiff, Nat.reduceSub, Nat.reduceMul, reduceCtorEq, hg]
    refine callL (C19 l y x (by omega) hx) ?_
    simp (config := {maxSteps := 2000000, implicitDefEqProofs := false}) (disch := omega) only [↓reduceIte, go_sem, Int.reduceToNat, Nat.reduceAdd, Nat.reduceLeDiff, Nat.reduceEqDiff, Nat.reduceSub, Nat.reduceMul, reduceCtorEq]
    refine ifB (fun b => ?_) (fun b => ?_)
    · simp (config := {maxSteps := 2000000, implicitDefEqProofs := false}) (disch := omega) only [↓reduceIte, go_sem, Int.reduceToNat, Nat.reduceAdd, Nat.reduceLeDiff, Nat.reduceEqDiff, Nat.reduceSub, Nat.reduceMul, reduceCtorEq]
      refine ⟨s + 1, ?_, by omega, by omega⟩
      rw [ht]
      simp [b, encN]
    · simp (config := {maxSteps := 2000000, implicitDefEqProofs := false}) (disch := omega) only [↓reduceIte, go_sem, Int.reduceToNat, Nat.reduceAdd, Nat.reduceLeDiff, Nat.reduceEqDiff, Nat.reduceSub, Nat.reduceMul, reduceCtorEq]
      refine ⟨s + 1, ?_, by omega, by omega⟩
      rw [ht]
      simp [b]
  · have hs : s = u.length := by omega
    subst hs
    simp (config := {maxSteps := 2000000, implicitDefEqProofs := false}) (disch := omega) only [↓reduceIte, go_sem, Int.reduceToNat, Nat.reduceAdd, Nat.reduceLeDiff, Nat.reduceEqDiff, Nat.reduceSub, Nat.reduceMul, reduceCtorEq]
    rw [List.take_length] at hfl ⊢
    have hc := C24 (u.filter (sevB l)).length (u.filter (sevB l)) (by omega)
    refine callO hc ?_
    rintro _ _ ⟨rfl, rfl⟩
    simp (config := {maxSteps := 2000000, implicitDefEqProofs := false}) (disch := omega) only [↓reduceIte, go_sem, Int.reduceToNat, Nat.reduceAdd, Nat.reduceLeDiff, Nat.reduceEqDiff, Nat.reduceSub, Nat.reduceMul, reduceCtorEq]
    rw [List.take_of_length_le (by rw [List.length_map, List.length_mergeSort]; exact Nat.le_refl _)]
    exact ⟨rfl, rfl⟩
end Go.Proofs.Ytcpjfjdlifjbhaa.X
namespace Go.Proofs.Ytcpjfjdlifjbhaa.X
open Go Go.AM Go.Proofs
attribute [local go_sem ↓] w_skip w_lbl w_ops w_draw w_pre w_post w_alt w_seq w_cond w_block w_loop w_exit w_ret w_scope w_rfunc l_nil l_cons th_n th_e th_r bk_n bk_r bk_e t_nil t_it t_call i_nil i_one i_grp s_nil s_cons c_call e_mv e_nil e_frz o_mov o_bin o_eq o_un o_conv o_len o_slen o_idx o_aix o_fad o_load o_store o_boxp o_boxo o_boxm o_alloc o_alloca o_nilarr o_build o_bslp o_bslo o_slc o_sslc o_slc3 o_sidx o_mkfn o_ext o_pick o_callf o_callb o_appd o_clear o_mxn o_field o_nilc o_make o_buildm o_boxg o_mkif o_tass o_eqs o_callo k_int k_str k_bool k_grb k_grt k_some k_none k_arr k_lens k_lenf k_lenh k_idxs k_idxf k_idxh k_ld k_loadp k_loadr k_loade k_storer k_storee k_oin k_ois k_slcs k_slcf k_slch k_slc3s k_slc3f k_slc3h k_app2 k_apps k_appf k_apph k_cals k_cald k_cali k_cnb k_cna k_esn k_esc k_efn k_efc k_esh b_add b_sub b_mul b_quo b_rem b_and b_or b_xor b_andNot b_eql b_neq b_lss b_leq b_gtr b_geq b_shl b_shr b_seq b_sne b_slt b_sad q_bool q_str q_nil q_nilf u_not u_neg u_xor f_ret f_nor v_r v_c v_reg v_ob v_set v_put v_so v_sn v_pn v_pc g_nil d_nil p_nil m_mv m_fr z_nil z_cons z_an z_ac g_cons d_cons p_cons y_mov y_bin y_eq y_un y_conv y_len y_slen y_idx y_aix y_fad y_load y_store y_boxp y_boxo y_boxm y_alloc y_alloca y_nilarr y_build y_bslp y_bslo y_slc y_sslc y_slc3 y_sidx y_mkfn y_ext y_pick y_callf y_callb y_appd y_clear y_mxn y_field y_nilc y_make y_buildm y_boxg y_mkif y_tass y_eqs y_callo nb_if
attribute [local go_sem] VL_mk VL2_mk If_t If_f If_not If_and If_or If_dt If_df If_et If_ef If_ne Ck_t Ck_h Opt_s ld_a ld_c renL ren keepR renA idxM invL getObs mapOb renOb allNone putAll fzR fzO fz fzL fzOb frzOk upFrom mapR resOne resA cellsOf oneA oneAL isP isPL okSt kRows kParts fillA setAt bor bor0 bor1 bor2 borC borI key0 key1 key2 keysA fillM cellsM cellM unif ptrA ifOk kPartsM getObsM allNoneM zipU scal0 scalar eqC evNil evNilF List.map_cons List.map_nil List.cons_append List.nil_append List.append_nil List.drop_zero List.drop_succ_cons List.drop_nil List.take_succ_cons List.take_zero List.take_nil List.length_cons List.length_nil List.length_map List.getElem?_map Option.map_some Option.map_none Int.toNat_natCast Int.toNat_zero Int.toNat_one Int.natCast_nonneg List.flatMap_cons List.flatMap_nil List.all_cons List.all_nil Bool.and_true Bool.true_and Bool.and_false Bool.false_and Bool.not_true Bool.not_false beq_self_eq_true nb_self all_nil List.forall_mem_cons tk_map tk_app bs_self bs_dec bq_t bq_f Bool.not_not decide_true decide_false Bool.not_not and_self and_true true_and eq_self List.reverse_cons List.reverse_nil List.getElem?_cons_zero List.getElem?_cons_succ cond_true cond_false List.set_cons_zero List.set_cons_succ Nat.zero_add Nat.add_zero if_true if_false ite_true ite_false implies_true wrap64 wrap8
set_option linter.unusedVariables false
set_option linter.unusedSimpArgs false
set_option maxRecDepth 10000
theorem C10 (u : List Int) (x : Int) (hl : u.length < 1000000) : Ctr Try.prog 10 [.sl (u.map encN), .int .i64 x] [] (ret [.bool (u.contains x)]) := by
  apply ctr_b A10_ok rfl (Nat.le_of_ble_eq_true rfl)
  unfold A10
  simp only [initL, Nat.reduceAdd]
  simp (config := {maxSteps := 2000000, implicitDefEqProofs := false}) (disch := omega) only [↓reduceIte, go_sem, Int.reduceToNat, Nat.reduceAdd, Nat.reduceLeDiff, Nat.reduceEqDiff, Nat.reduceSub, Nat.reduceMul, reduceCtorEq]
  refine loopL (σ := Nat) (fun s => ⟨[(0, .sl (u.map encN)), (1, .int .i64 x), (5, .int .i64 s)], []⟩) (fun s => s ≤ u.length ∧ ∀ j, j < s → u[j]! ≠ x) (fun s => u.length - s) 0 (by simp (config := {maxSteps := 2000000, implicitDefEqProofs := false}) (disch := omega) only [↓reduceIte, go_sem, Int.reduceToNat, Nat.reduceAdd, Nat.reduceLeDiff, Nat.reduceEqDiff, Nat.reduceSub, Nat.reduceMul, reduceCtorEq]; rfl) ⟨by omega, fun j hj => by omega⟩ ?_
  rintro s ⟨h1, h2⟩
  simp (config := {maxSteps := 2000000, implicitDefEqProofs := false}) (disch := omega) only [↓reduceIte, go_sem, Int.reduceToNat, Nat.reduceAdd, Nat.reduceLeDiff, Nat.reduceEqDiff, Nat.reduceSub, Nat.reduceMul, reduceCtorEq]
  refine ifD (fun c => ?_) (fun c => ?_)
  · have hs : s < u.length := by omega
    have hg := enc_get hs
    simp (config := {maxSteps := 2000000, implicitDefEqProofs := false}) (disch := omega) only [↓reduceIte, go_sem, Int.reduceToNat, Nat.reduceAdd, Nat.reduceLeDiff, Nat.reduceEqDiff, Nat.reduceSub, Nat.reduceMul, reduceCtorEq, hg]
    refine ifE (fun e => ?_) (fun e => ?_)
    · simp (config := {maxSteps := 2000000, implicitDefEqProofs := false}) (disch := omega) only [↓reduceIte, go_sem, Int.reduceToNat, Nat.reduceAdd, Nat.reduceLeDiff, Nat.reduceEqDiff, Nat.reduceSub, Nat.reduceMul, reduceCtorEq]
      refine ⟨?_, rfl⟩
      have : u.contains x = true := by
        rw [List.contains_iff_mem, ← e]
        simp [hs]
      rw [this]
    · simp (config := {maxSteps := 2000000, implicitDefEqProofs := false}) (disch := omega) only [↓reduceIte, go_sem, Int.reduceToNat, Nat.reduceAdd, Nat.reduceLeDiff, Nat.reduceEqDiff, Nat.reduceSub, Nat.reduceMul, reduceCtorEq]
      refine ⟨s + 1, by simp, ⟨by omega, fun j hj => ?_⟩, by omega⟩
      by_cases hjs : j = s
      · subst hjs; exact e
      · exact h2 j (by omega)
  · simp (config := {maxSteps := 2000000, implicitDefEqProofs := false}) (disch := omega) only [↓reduceIte, go_sem, Int.reduceToNat, Nat.reduceAdd, Nat.reduceLeDiff, Nat.reduceEqDiff, Nat.reduceSub, Nat.reduceMul, reduceCtorEq]
    refine ⟨?_, rfl⟩
    have : u.contains x = false := by
      rw [← Bool.not_eq_true, List.contains_iff_mem]
      intro hm
      obtain ⟨j, hj, e⟩ := List.getElem_of_mem hm
      exact h2 j (by omega) (by simp [hj, e])
    rw [this]
theorem ints_ne {u w : List Int} {j : Nat} (h : u[j]! ≠ w[j]!) : (u == w) = false := by
  rw [beq_eq_false_iff_ne]
  intro e
  rw [e] at h
  exact h rfl
theorem C11 (u w : List Int) (hl : u.length < 1000000) (hw : w.length < 1000000) : Ctr Try.prog 11 [.sl (u.map encN), .sl (w.map encN)] [] (ret [.bool (u == w)]) := by
  apply ctr_b A11_ok rfl (Nat.le_of_ble_eq_true rfl)
  unfold A11
  simp only [initL, Nat.reduceAdd]
  simp (config := {maxSteps := 2000000, implicitDefEqProofs := false}) (disch := omega) only [↓reduceIte, go_sem, Int.reduceToNat, Nat.reduceAdd, Nat.reduceLeDiff, Nat.reduceEqDiff, Nat.reduceSub, Nat.reduceMul, reduceCtorEq]
  refine ifE (fun e => ?_) (fun e => ?_)
  · have he : u.length = w.length := by omega
    simp (config := {maxSteps := 2000000, implicitDefEqProofs := false}) (disch := omega) only [↓reduceIte, go_sem, Int.reduceToNat, Nat.reduceAdd, Nat.reduceLeDiff, Nat.reduceEqDiff, Nat.reduceSub, Nat.reduceMul, reduceCtorEq]
    refine loopL (σ := Nat) (fun s => ⟨[(0, .sl (u.map encN)), (1, .sl (w.map encN)), (5, .int .i64 s)], []⟩) (fun s => s ≤ u.length ∧ ∀ j, j < s → u[j]! = w[j]!) (fun s => u.length - s) 0 (by simp (config := {maxSteps := 2000000, implicitDefEqProofs := false}) (disch := omega) only [↓reduceIte, go_sem, Int.reduceToNat, Nat.reduceAdd, Nat.reduceLeDiff, Nat.reduceEqDiff, Nat.reduceSub, Nat.reduceMul, reduceCtorEq]; rfl) ⟨by omega, fun j hj => by omega⟩ ?_
    rintro s ⟨h1, h2⟩
    simp (config := {maxSteps := 2000000, implicitDefEqProofs := false}) (disch := omega) only [↓reduceIte, go_sem, Int.reduceToNat, Nat.reduceAdd, Nat.reduceLeDiff, Nat.reduceEqDiff, Nat.reduceSub, Nat.reduceMul, reduceCtorEq]
    refine ifD (fun c => ?_) (fun c => ?_)
    · have hs : s < u.length := by omega
      have hg := enc_get hs
      have hg2 := enc_get (show s < w.length by omega)
      simp (config := {maxSteps := 2000000, implicitDefEqProofs := false}) (disch := omega) only [↓reduceIte, go_sem, Int.reduceToNat, Nat.reduceAdd, Nat.reduceLeDiff, Nat.reduceEqDiff, Nat.reduceSub, Nat.reduceMul, reduceCtorEq, hg, hg2]
      refine accL (by kernel_rfl) ?_
      simp (config := {maxSteps := 2000000, implicitDefEqProofs := false}) (disch := omega) only [↓reduceIte, go_sem, Int.reduceToNat, Nat.reduceAdd, Nat.reduceLeDiff, Nat.reduceEqDiff, Nat.reduceSub, Nat.reduceMul, reduceCtorEq]
      refine ifE (fun e => ?_) (fun e => ?_)
      · simp (config := {maxSteps := 2000000, implicitDefEqProofs := false}) (disch := omega) only [↓reduceIte, go_sem, Int.reduceToNat, Nat.reduceAdd, Nat.reduceLeDiff, Nat.reduceEqDiff, Nat.reduceSub, Nat.reduceMul, reduceCtorEq]
        refine ⟨s + 1, by simp, ⟨by omega, fun j hj => ?_⟩, by omega⟩
        by_cases hjs : j = s
        · subst hjs; exact e
        · exact h2 j (by omega)
      · simp (config := {maxSteps := 2000000, implicitDefEqProofs := false}) (disch := omega) only [↓reduceIte, go_sem, Int.reduceToNat, Nat.reduceAdd, Nat.reduceLeDiff, Nat.reduceEqDiff, Nat.reduceSub, Nat.reduceMul, reduceCtorEq]
        exact ⟨by rw [ints_ne e], rfl⟩
    · simp (config := {maxSteps := 2000000, implicitDefEqProofs := false}) (disch := omega) only [↓reduceIte, go_sem, Int.reduceToNat, Nat.reduceAdd, Nat.reduceLeDiff, Nat.reduceEqDiff, Nat.reduceSub, Nat.reduceMul, reduceCtorEq]
      refine ⟨?_, rfl⟩
      have : u = w := List.ext_getElem he fun j h3 h4 => by
        have := h2 j (by omega)
        simpa [h3, h4] using this
      subst this
      simp
  · simp (config := {maxSteps := 2000000, implicitDefEqProofs := false}) (disch := omega) only [↓reduceIte, go_sem, Int.reduceToNat, Nat.reduceAdd, Nat.reduceLeDiff, Nat.reduceEqDiff, Nat.reduceSub, Nat.reduceMul, reduceCtorEq]
    refine ⟨?_, rfl⟩
    have : (u == w) = false := by
      rw [beq_eq_false_iff_ne]
      intro h
      exact e (by rw [h])
    rw [this]
theorem zip_ne (l : List Seg) : l.zipIdx.Pairwise (· ≠ ·) := by
  rw [List.pairwise_iff_getElem]
  intro i j hi hj hij e
  have := congrArg Prod.snd e
  simp at this
  omega
theorem srt_lt (l : List Seg) : (srtT l).Pairwise ltT := by
  have h1 := srt_le l
  have h2 : (srtT l).Pairwise (· ≠ ·) := (srt_perm l).symm.pairwise (zip_ne l) (fun h e => h e.symm)
  have h3 := h1.and h2
  refine h3.imp_of_mem fun {a b} ha hb h => ?_
  by_cases h4 : ltT a b
  · exact h4
  · exact absurd (zip_tot l ((srt_perm l).mem_iff.1 ha) ((srt_perm l).mem_iff.1 hb) h4 h.1) h.2
def candB (out : List Int) (s : Seg) : Bool := slotB s && !(out.contains s.loc.n)
theorem dd_cand (out : List Int) (t : Tg) (S : List Tg) : dd out (t :: S) = if candB out t.1 then t.1.loc.n :: dd (out ++ [t.1.loc.n]) S else dd out S := rfl
theorem dd_none {out : List Int} : ∀ {S : List Tg}, (∀ t ∈ S, candB out t.1 = false) → dd out S = []
  | [], _ => rfl
  | t :: S, h => by
    rw [dd_cand, h t (by simp)]
    exact dd_none fun t ht => h t (by simp [ht])
theorem dd_some {out : List Int} : ∀ {S : List Tg} {t : Tg}, S.Pairwise ltT → t ∈ S → candB out t.1 = true → (∀ x ∈ S, candB out x.1 = true → x = t ∨ ltT t x) →
    ∃ A B, S = A ++ t :: B ∧ (∀ x ∈ A, candB out x.1 = false) ∧ dd out S = t.1.loc.n :: dd (out ++ [t.1.loc.n]) B
  | [], t, _, ht, _, _ => by simp at ht
  | x :: S, t, hp, ht, hc, hm => by
    by_cases e : x = t
    · subst e
      exact ⟨[], S, rfl, by simp, by rw [dd_cand, hc]; rfl⟩
    · have ht' : t ∈ S := by
        rcases List.mem_cons.1 ht with h | h
        · exact absurd h.symm e
        · exact h
      rw [List.pairwise_cons] at hp
      have hx : candB out x.1 = false := by
        rw [← Bool.not_eq_true]
        intro h
        rcases hm x (by simp) h with h | h
        · exact e h
        · exact ltT_asym h (hp.1 t ht')
      obtain ⟨A, B, h1, h2, h3⟩ := dd_some hp.2 ht' hc fun y hy => hm y (by simp [hy])
      refine ⟨x :: A, B, by rw [h1]; rfl, ?_, ?_⟩
      · intro y hy
        rcases List.mem_cons.1 hy with rfl | hy
        · exact hx
        · exact h2 y hy
      · rw [dd_cand, hx]
        exact h3
/-- What was found yet, of the first i. -/
def BestI (l : List Seg) (out : List Int) (i : Nat) : Option Nat → Prop
  | none => ∀ j y, j < i → l[j]? = some y → candB out y = false
  | some b => b < i ∧ ∃ z, l[b]? = some z ∧ candB out z = true ∧ ∀ j y, j < i → l[j]? = some y → candB out y = true → j = b ∨ ltT (z, b) (y, j)
def bestN : Option Nat → Int
  | none => -1
  | some b => b
/-- Where the search stands. -/
def AtU (l : List Seg) (out : List Int) : Prop := ∃ A S, srtT l = A ++ S ∧ (∀ t ∈ A, candB out t.1 = false) ∧ usedF l = out ++ dd out S
theorem AtU.done {l : List Seg} {out : List Int} (h : AtU l out) (hb : BestI l out l.length none) : usedF l = out := by
  obtain ⟨A, S, h1, h2, h3⟩ := h
  rw [h3, dd_none, List.append_nil]
  intro t ht
  have hm := srt_mem (l := l) (t := t) (by rw [h1]; simp [ht])
  obtain ⟨j, hj⟩ := List.getElem?_of_mem hm
  exact hb j _ (List.getElem?_eq_some_iff.1 hj).1 hj
theorem AtU.next {l : List Seg} {out : List Int} {b : Nat} {z : Seg} (h : AtU l out) (hb : BestI l out l.length (some b)) (hz : l[b]? = some z) : AtU l (out ++ [z.loc.n]) := by
  obtain ⟨A, S, h1, h2, h3⟩ := h
  obtain ⟨hb1, z', hz', hc, hmin⟩ := hb
  rw [hz] at hz'
  cases hz'
  have hmem : (z, b) ∈ srtT l := (srt_perm l).mem_iff.2 (by rw [List.mem_zipIdx_iff_getElem?]; exact hz)
  have hS : (z, b) ∈ S := by
    rw [h1] at hmem
    rcases List.mem_append.1 hmem with h | h
    · rw [h2 _ h] at hc; cases hc
    · exact h
  have hp := srt_lt l
  rw [h1] at hp
  obtain ⟨A', B, k1, k2, k3⟩ := dd_some (List.pairwise_append.1 hp).2.1 hS hc fun x hx hcx => by
    have hm : x ∈ srtT l := by rw [h1]; simp [hx]
    have hm := (srt_perm l).mem_iff.1 hm
    rw [List.mem_zipIdx_iff_getElem?] at hm
    rcases hmin x.2 x.1 (List.getElem?_eq_some_iff.1 hm).1 hm hcx with e | e
    · left
      obtain ⟨x1, x2⟩ := x
      simp only at e hm
      subst e
      rw [hz] at hm
      cases hm
      rfl
    · exact .inr e
  have mono : ∀ s, candB out s = false → candB (out ++ [z.loc.n]) s = false := by
    intro s hs
    unfold candB at hs ⊢
    cases hb : slotB s
    · simp
    · rw [hb] at hs
      simp only [Bool.true_and, Bool.not_eq_false', List.contains_iff_mem] at hs ⊢
      exact List.mem_append_left _ hs
  refine ⟨A ++ A' ++ [(z, b)], B, by rw [h1, k1]; simp, ?_, by rw [h3, k3]; simp⟩
  intro t ht
  simp only [List.mem_append, List.mem_singleton] at ht
  rcases ht with (ht | ht) | rfl
  · exact mono _ (h2 t ht)
  · exact mono _ (k2 t ht)
  · simp [candB]
theorem AtU.le {l : List Seg} {out : List Int} (h : AtU l out) : out.length ≤ (usedF l).length := by
  obtain ⟨A, S, h1, h2, h3⟩ := h
  rw [h3]
  simp
theorem BestI.skip {l : List Seg} {out : List Int} {i : Nat} {z : Seg} {b : Option Nat} (h : BestI l out i b) (hz : l[i]? = some z) (hc : candB out z = false) : BestI l out (i + 1) b := by
  cases b with
  | none =>
    intro j y hj hy
    by_cases e : j = i
    · subst e; rw [hz] at hy; cases hy; exact hc
    · exact h j y (by omega) hy
  | some b =>
    obtain ⟨h1, w, h2, h3, h4⟩ := h
    refine ⟨by omega, w, h2, h3, fun j y hj hy hcy => ?_⟩
    by_cases e : j = i
    · subst e; rw [hz] at hy; cases hy; rw [hc] at hcy; cases hcy
    · exact h4 j y (by omega) hy hcy
theorem BestI.keep {l : List Seg} {out : List Int} {i b : Nat} {z w : Seg} (h : BestI l out i (some b)) (hz : l[i]? = some z) (hw : l[b]? = some w) (hn : ¬ (z.fr < w.fr ∨ z.fr = w.fr ∧ z.v < w.v)) : BestI l out (i + 1) (some b) := by
  obtain ⟨h1, w', h2, h3, h4⟩ := h
  rw [hw] at h2
  cases h2
  refine ⟨by omega, w, hw, h3, fun j y hj hy hcy => ?_⟩
  by_cases e : j = i
  · subst e
    rw [hz] at hy
    cases hy
    right
    unfold ltT
    simp only
    omega
  · exact h4 j y (by omega) hy hcy
theorem BestI.first {l : List Seg} {out : List Int} {i : Nat} {z : Seg} (h : BestI l out i none) (hz : l[i]? = some z) (hc : candB out z = true) : BestI l out (i + 1) (some i) := by
  refine ⟨by omega, z, hz, hc, fun j y hj hy hcy => ?_⟩
  by_cases e : j = i
  · exact .inl e
  · rw [h j y (by omega) hy] at hcy; cases hcy
theorem BestI.better {l : List Seg} {out : List Int} {i b : Nat} {z w : Seg} (h : BestI l out i (some b)) (hz : l[i]? = some z) (hc : candB out z = true) (hw : l[b]? = some w) (hn : z.fr < w.fr ∨ z.fr = w.fr ∧ z.v < w.v) : BestI l out (i + 1) (some i) := by
  obtain ⟨h1, w', h2, h3, h4⟩ := h
  rw [hw] at h2
  cases h2
  refine ⟨by omega, z, hz, hc, fun j y hj hy hcy => ?_⟩
  by_cases e : j = i
  · exact .inl e
  · have hzw : ltT (z, i) (w, b) := by unfold ltT; simp only; omega
    rcases h4 j y (by omega) hy hcy with h5 | h5
    · subst h5
      rw [hw] at hy
      cases hy
      exact .inr hzw
    · exact .inr (ltT_trans hzw h5)
theorem best_neg {o : Option Nat} (h : bestN o < 0) : o = none := by
  cases o with
  | none => rfl
  | some b => exact absurd (show (b : Int) < 0 from h) (by omega)
theorem best_pos {o : Option Nat} (h : ¬ bestN o < 0) : ∃ b : Nat, o = some b ∧ (bestN o).toNat = b := by
  cases o with
  | none => exact absurd (by decide) h
  | some b => exact ⟨b, rfl, rfl⟩
set_option maxHeartbeats 4000000 in
theorem C9 (l : List Seg) (hl : l.length ≤ 40) : Ctr Try.prog 9 [.sl (l.map encS)] [] (ret [.sl ((usedF l).map encN)]) := by
  have hul := usedF_len l
  apply ctr_b A9_ok rfl (Nat.le_of_ble_eq_true rfl)
  unfold A9
  simp only [initL, Nat.reduceAdd]
  simp (config := {maxSteps := 2000000, implicitDefEqProofs := false}) (disch := omega) only [↓reduceIte, go_sem, Int.reduceToNat, Nat.reduceAdd, Nat.reduceLeDiff, Nat.reduceEqDiff, Nat.reduceSub, Nat.reduceMul, reduceCtorEq]
  refine loopL (σ := List Int) (fun s => ⟨[(0, .sl (l.map encS)), (3, .hs 3 s.length 0 s.length)], [(3, .arr s.length 1 (s.map encN))]⟩)
    (fun s => AtU l s) (fun s => (usedF l).length - s.length) [] (by simp (config := {maxSteps := 2000000, implicitDefEqProofs := false}) (disch := omega) only [↓reduceIte, go_sem, Int.reduceToNat, Nat.reduceAdd, Nat.reduceLeDiff, Nat.reduceEqDiff, Nat.reduceSub, Nat.reduceMul, reduceCtorEq]) ⟨[], srtT l, rfl, by simp, rfl⟩ ?_
  rintro out hU
  have hol := hU.le
  simp (config := {maxSteps := 2000000, implicitDefEqProofs := false}) (disch := omega) only [↓reduceIte, go_sem, Int.reduceToNat, Nat.reduceAdd, Nat.reduceLeDiff, Nat.reduceEqDiff, Nat.reduceSub, Nat.reduceMul, reduceCtorEq]
  refine loopL (σ := Nat × Option Nat) (fun s => ⟨[(0, .sl (l.map encS)), (3, .hs 3 out.length 0 out.length), (4, .int .i64 (bestN s.2)), (5, .int .i64 s.1)], [(3, .arr out.length 1 (out.map encN))]⟩)
    (fun s => s.1 ≤ l.length ∧ BestI l out s.1 s.2) (fun s => l.length - s.1) (0, none) (by simp (config := {maxSteps := 2000000, implicitDefEqProofs := false}) (disch := omega) only [↓reduceIte, go_sem, Int.reduceToNat, Nat.reduceAdd, Nat.reduceLeDiff, Nat.reduceEqDiff, Nat.reduceSub, Nat.reduceMul, reduceCtorEq]; rfl) ⟨by simp, fun j y hj => by simp only at hj; omega⟩ ?_
  rintro ⟨i, best⟩ ⟨h1, h2⟩
  simp only at h1 h2
  simp (config := {maxSteps := 2000000, implicitDefEqProofs := false}) (disch := omega) only [↓reduceIte, go_sem, Int.reduceToNat, Nat.reduceAdd, Nat.reduceLeDiff, Nat.reduceEqDiff, Nat.reduceSub, Nat.reduceMul, reduceCtorEq]
  refine ifD (fun c => ?_) (fun c => ?_)
  · have hi : i < l.length := by omega
    have hg := seg_get hi
    have hb := bangS hi
    generalize l[i]! = z at hg hb
    simp only [encS] at hg
    have hc := C10 out z.loc.n (by omega)
    simp (config := {maxSteps := 2000000, implicitDefEqProofs := false}) (disch := omega) only [↓reduceIte, go_sem, Int.reduceToNat, Nat.reduceAdd, Nat.reduceLeDiff, Nat.reduceEqDiff, Nat.reduceSub, Nat.reduceMul, reduceCtorEq, hg]
    refine ifE (fun e => ?_) (fun e => ?_)
    · simp (config := {maxSteps := 2000000, implicitDefEqProofs := false}) (disch := omega) only [↓reduceIte, go_sem, Int.reduceToNat, Nat.reduceAdd, Nat.reduceLeDiff, Nat.reduceEqDiff, Nat.reduceSub, Nat.reduceMul, reduceCtorEq, hg]
      refine callL hc ?_
      simp (config := {maxSteps := 2000000, implicitDefEqProofs := false}) (disch := omega) only [↓reduceIte, go_sem, Int.reduceToNat, Nat.reduceAdd, Nat.reduceLeDiff, Nat.reduceEqDiff, Nat.reduceSub, Nat.reduceMul, reduceCtorEq, hg]
      refine ifB (fun b => ?_) (fun b => ?_)
      · simp (config := {maxSteps := 2000000, implicitDefEqProofs := false}) (disch := omega) only [↓reduceIte, go_sem, Int.reduceToNat, Nat.reduceAdd, Nat.reduceLeDiff, Nat.reduceEqDiff, Nat.reduceSub, Nat.reduceMul, reduceCtorEq, hg]
        exact ⟨(i + 1, best), by simp, ⟨by simp only; omega, h2.skip hb (by simp only [candB, b]; simp)⟩, by simp only; omega⟩
      · have hcz : candB out z = true := by simp only [candB, b]; simp [slotB, e]
        simp (config := {maxSteps := 2000000, implicitDefEqProofs := false}) (disch := omega) only [↓reduceIte, go_sem, Int.reduceToNat, Nat.reduceAdd, Nat.reduceLeDiff, Nat.reduceEqDiff, Nat.reduceSub, Nat.reduceMul, reduceCtorEq, hg]
        refine ifD (fun c2 => ?_) (fun c2 => ?_)
        · simp (config := {maxSteps := 2000000, implicitDefEqProofs := false}) (disch := omega) only [↓reduceIte, go_sem, Int.reduceToNat, Nat.reduceAdd, Nat.reduceLeDiff, Nat.reduceEqDiff, Nat.reduceSub, Nat.reduceMul, reduceCtorEq, hg]
          refine accL (by kernel_rfl) ?_
          simp (config := {maxSteps := 2000000, implicitDefEqProofs := false}) (disch := omega) only [↓reduceIte, go_sem, Int.reduceToNat, Nat.reduceAdd, Nat.reduceLeDiff, Nat.reduceEqDiff, Nat.reduceSub, Nat.reduceMul, reduceCtorEq, hg]
          have hbn := best_neg c2
          subst hbn
          exact ⟨(i + 1, some i), by simp [bestN], ⟨by simp only; omega, h2.first hb hcz⟩, by simp only; omega⟩
        · simp (config := {maxSteps := 2000000, implicitDefEqProofs := false}) (disch := omega) only [↓reduceIte, go_sem, Int.reduceToNat, Nat.reduceAdd, Nat.reduceLeDiff, Nat.reduceEqDiff, Nat.reduceSub, Nat.reduceMul, reduceCtorEq, hg]
          obtain ⟨bb, rfl, hbn⟩ := best_pos c2
          obtain ⟨hbb, w, hw, _⟩ := id h2
          have hg2 : Option.map encS l[bb]? = some (encS w) := by rw [hw]; rfl
          simp only [encS] at hg2
          simp (config := {maxSteps := 2000000, implicitDefEqProofs := false}) (disch := omega) only [↓reduceIte, go_sem, Int.reduceToNat, Nat.reduceAdd, Nat.reduceLeDiff, Nat.reduceEqDiff, Nat.reduceSub, Nat.reduceMul, reduceCtorEq, hg, hbn, hg2]
          refine ifD (fun c3 => ?_) (fun c3 => ?_)
          · simp (config := {maxSteps := 2000000, implicitDefEqProofs := false}) (disch := omega) only [↓reduceIte, go_sem, Int.reduceToNat, Nat.reduceAdd, Nat.reduceLeDiff, Nat.reduceEqDiff, Nat.reduceSub, Nat.reduceMul, reduceCtorEq, hg, hbn, hg2]
            refine accL (by kernel_rfl) ?_
            simp (config := {maxSteps := 2000000, implicitDefEqProofs := false}) (disch := omega) only [↓reduceIte, go_sem, Int.reduceToNat, Nat.reduceAdd, Nat.reduceLeDiff, Nat.reduceEqDiff, Nat.reduceSub, Nat.reduceMul, reduceCtorEq, hg, hbn, hg2]
            exact ⟨(i + 1, some i), by simp [bestN], ⟨by simp only; omega, h2.better hb hcz hw (.inl c3)⟩, by simp only; omega⟩
          · simp (config := {maxSteps := 2000000, implicitDefEqProofs := false}) (disch := omega) only [↓reduceIte, go_sem, Int.reduceToNat, Nat.reduceAdd, Nat.reduceLeDiff, Nat.reduceEqDiff, Nat.reduceSub, Nat.reduceMul, reduceCtorEq, hg, hbn, hg2]
            refine ifE (fun c4 => ?_) (fun c4 => ?_)
            · simp (config := {maxSteps := 2000000, implicitDefEqProofs := false}) (disch := omega) only [↓reduceIte, go_sem, Int.reduceToNat, Nat.reduceAdd, Nat.reduceLeDiff, Nat.reduceEqDiff, Nat.reduceSub, Nat.reduceMul, reduceCtorEq, hg, hbn, hg2]
              refine accL (by kernel_rfl) ?_
              simp (config := {maxSteps := 2000000, implicitDefEqProofs := false}) (disch := omega) only [↓reduceIte, go_sem, Int.reduceToNat, Nat.reduceAdd, Nat.reduceLeDiff, Nat.reduceEqDiff, Nat.reduceSub, Nat.reduceMul, reduceCtorEq, hg, hbn, hg2]
              refine ifD (fun c5 => ?_) (fun c5 => ?_)
              · simp (config := {maxSteps := 2000000, implicitDefEqProofs := false}) (disch := omega) only [↓reduceIte, go_sem, Int.reduceToNat, Nat.reduceAdd, Nat.reduceLeDiff, Nat.reduceEqDiff, Nat.reduceSub, Nat.reduceMul, reduceCtorEq, hg, hbn, hg2]
                exact ⟨(i + 1, some i), by simp [bestN], ⟨by simp only; omega, h2.better hb hcz hw (.inr ⟨c4, c5⟩)⟩, by simp only; omega⟩
              · simp (config := {maxSteps := 2000000, implicitDefEqProofs := false}) (disch := omega) only [↓reduceIte, go_sem, Int.reduceToNat, Nat.reduceAdd, Nat.reduceLeDiff, Nat.reduceEqDiff, Nat.reduceSub, Nat.reduceMul, reduceCtorEq, hg, hbn, hg2]
                exact ⟨(i + 1, some bb), by simp [bestN], ⟨by simp only; omega, h2.keep hb hw (by omega)⟩, by simp only; omega⟩
            · simp (config := {maxSteps := 2000000, implicitDefEqProofs := false}) (disch := omega) only [↓reduceIte, go_sem, Int.reduceToNat, Nat.reduceAdd, Nat.reduceLeDiff, Nat.reduceEqDiff, Nat.reduceSub, Nat.reduceMul, reduceCtorEq, hg, hbn, hg2]
              refine accL (by kernel_rfl) ?_
              simp (config := {maxSteps := 2000000, implicitDefEqProofs := false}) (disch := omega) only [↓reduceIte, go_sem, Int.reduceToNat, Nat.reduceAdd, Nat.reduceLeDiff, Nat.reduceEqDiff, Nat.reduceSub, Nat.reduceMul, reduceCtorEq, hg, hbn, hg2]
              exact ⟨(i + 1, some bb), by simp [bestN], ⟨by simp only; omega, h2.keep hb hw (by omega)⟩, by simp only; omega⟩
    · simp (config := {maxSteps := 2000000, implicitDefEqProofs := false}) (disch := omega) only [↓reduceIte, go_sem, Int.reduceToNat, Nat.reduceAdd, Nat.reduceLeDiff, Nat.reduceEqDiff, Nat.reduceSub, Nat.reduceMul, reduceCtorEq, hg]
      exact ⟨(i + 1, best), by simp, ⟨by simp only; omega, h2.skip hb (by simp [candB, slotB, e])⟩, by simp only; omega⟩
  · simp (config := {maxSteps := 2000000, implicitDefEqProofs := false}) (disch := omega) only [↓reduceIte, go_sem, Int.reduceToNat, Nat.reduceAdd, Nat.reduceLeDiff, Nat.reduceEqDiff, Nat.reduceSub, Nat.reduceMul, reduceCtorEq]
    have hi : i = l.length := by omega
    subst hi
    refine ifD (fun c2 => ?_) (fun c2 => ?_)
    · simp (config := {maxSteps := 2000000, implicitDefEqProofs := false}) (disch := omega) only [↓reduceIte, go_sem, Int.reduceToNat, Nat.reduceAdd, Nat.reduceLeDiff, Nat.reduceEqDiff, Nat.reduceSub, Nat.reduceMul, reduceCtorEq]
      have hbn := best_neg c2
      subst hbn
      exact ⟨by rw [hU.done h2], rfl⟩
    · simp (config := {maxSteps := 2000000, implicitDefEqProofs := false}) (disch := omega) only [↓reduceIte, go_sem, Int.reduceToNat, Nat.reduceAdd, Nat.reduceLeDiff, Nat.reduceEqDiff, Nat.reduceSub, Nat.reduceMul, reduceCtorEq]
      obtain ⟨bb, rfl, hbn⟩ := best_pos c2
      obtain ⟨hbb, w, hw, _⟩ := id h2
      have hg2 : Option.map encS l[bb]? = some (encS w) := by rw [hw]; rfl
      simp only [encS] at hg2
      have hN := hU.next h2 hw
      have hle := hN.le
      rw [List.length_append, List.length_singleton] at hle
      simp (config := {maxSteps := 2000000, implicitDefEqProofs := false}) (disch := omega) only [↓reduceIte, go_sem, Int.reduceToNat, Nat.reduceAdd, Nat.reduceLeDiff, Nat.reduceEqDiff, Nat.reduceSub, Nat.reduceMul, reduceCtorEq, hbn, hg2]
      refine ⟨out ++ [w.loc.n], ?_, hN, by simp; omega⟩
      simp [encN]
end Go.Proofs.Ytcpjfjdlifjbhaa.X
namespace Go.Proofs.Ytcpjfjdlifjbhaa.X
open Go Go.AM Go.Proofs
attribute [local go_sem ↓] w_skip w_lbl w_ops w_draw w_pre w_post w_alt w_seq w_cond w_block w_loop w_exit w_ret w_scope w_rfunc l_nil l_cons th_n th_e th_r bk_n bk_r bk_e t_nil t_it t_call i_nil i_one i_grp s_nil s_cons c_call e_mv e_nil e_frz o_mov o_bin o_eq o_un o_conv o_len o_slen o_idx o_aix o_fad o_load o_store o_boxp o_boxo o_boxm o_alloc o_alloca o_nilarr o_build o_bslp o_bslo o_slc o_sslc o_slc3 o_sidx o_mkfn o_ext o_pick o_callf o_callb o_appd o_clear o_mxn o_field o_nilc o_make o_buildm o_boxg o_mkif o_tass o_eqs o_callo k_int k_str k_bool k_grb k_grt k_some k_none k_arr k_lens k_lenf k_lenh k_idxs k_idxf k_idxh k_ld k_loadp k_loadr k_loade k_storer k_storee k_oin k_ois k_slcs k_slcf k_slch k_slc3s k_slc3f k_slc3h k_app2 k_apps k_appf k_apph k_cals k_cald k_cali k_cnb k_cna k_esn k_esc k_efn k_efc k_esh b_add b_sub b_mul b_quo b_rem b_and b_or b_xor b_andNot b_eql b_neq b_lss b_leq b_gtr b_geq b_shl b_shr b_seq b_sne b_slt b_sad q_bool q_str q_nil q_nilf u_not u_neg u_xor f_ret f_nor v_r v_c v_reg v_ob v_set v_put v_so v_sn v_pn v_pc g_nil d_nil p_nil m_mv m_fr z_nil z_cons z_an z_ac g_cons d_cons p_cons y_mov y_bin y_eq y_un y_conv y_len y_slen y_idx y_aix y_fad y_load y_store y_boxp y_boxo y_boxm y_alloc y_alloca y_nilarr y_build y_bslp y_bslo y_slc y_sslc y_slc3 y_sidx y_mkfn y_ext y_pick y_callf y_callb y_appd y_clear y_mxn y_field y_nilc y_make y_buildm y_boxg y_mkif y_tass y_eqs y_callo nb_if
attribute [local go_sem] VL_mk VL2_mk If_t If_f If_not If_and If_or If_dt If_df If_et If_ef If_ne Ck_t Ck_h Opt_s ld_a ld_c renL ren keepR renA idxM invL getObs mapOb renOb allNone putAll fzR fzO fz fzL fzOb frzOk upFrom mapR resOne resA cellsOf oneA oneAL isP isPL okSt kRows kParts fillA setAt bor bor0 bor1 bor2 borC borI key0 key1 key2 keysA fillM cellsM cellM unif ptrA ifOk kPartsM getObsM allNoneM zipU scal0 scalar eqC evNil evNilF List.map_cons List.map_nil List.cons_append List.nil_append List.append_nil List.drop_zero List.drop_succ_cons List.drop_nil List.take_succ_cons List.take_zero List.take_nil List.length_cons List.length_nil List.length_map List.getElem?_map Option.map_some Option.map_none Int.toNat_natCast Int.toNat_zero Int.toNat_one Int.natCast_nonneg List.flatMap_cons List.flatMap_nil List.all_cons List.all_nil Bool.and_true Bool.true_and Bool.and_false Bool.false_and Bool.not_true Bool.not_false beq_self_eq_true nb_self all_nil List.forall_mem_cons tk_map tk_app bs_self bs_dec bq_t bq_f Bool.not_not decide_true decide_false Bool.not_not and_self and_true true_and eq_self List.reverse_cons List.reverse_nil List.getElem?_cons_zero List.getElem?_cons_succ cond_true cond_false List.set_cons_zero List.set_cons_succ Nat.zero_add Nat.add_zero if_true if_false ite_true ite_false implies_true wrap64 wrap8
set_option linter.unusedVariables false
set_option linter.unusedSimpArgs false
set_option maxRecDepth 10000
theorem C29 (u : List Int) (n : Int) (hl : u.length < 1000000) : Ctr Try.prog 29 [.int .i64 n, .rp [.sl (u.map encN)]] [] (ret [.int .i64 (ixF (n == ·) u)]) := by
  apply ctr_b A29_ok rfl (Nat.le_of_ble_eq_true rfl)
  unfold A29
  simp only [initL, Nat.reduceAdd]
  simp (config := {maxSteps := 2000000, implicitDefEqProofs := false}) (disch := omega) only [↓reduceIte, go_sem, Int.reduceToNat, Nat.reduceAdd, Nat.reduceLeDiff, Nat.reduceEqDiff, Nat.reduceSub, Nat.reduceMul, reduceCtorEq]
  refine callL (C30 u n hl) ?_
  simp (config := {maxSteps := 2000000, implicitDefEqProofs := false}) (disch := omega) only [↓reduceIte, go_sem, Int.reduceToNat, Nat.reduceAdd, Nat.reduceLeDiff, Nat.reduceEqDiff, Nat.reduceSub, Nat.reduceMul, reduceCtorEq]
  exact ⟨rfl, rfl⟩
def turnS (u : List Int) (s : Seg) : Seg := if slotB s then { s with loc := { s.loc with n := ixF (s.loc.n == ·) u } } else s
def encU (u : List Int) (s : Seg) : List AV := encS (turnS u s)
theorem turn_len (u : List Int) (l : List Seg) : (l.map (encU u)).length = l.length := List.length_map _
theorem C28 (u : List Int) (l : List Seg) (hu : u.length < 1000000) (hl : l.length < 1000000) : Ctr Try.prog 28 [.sl (l.map encS), .fn 29 [.rp [.sl (u.map encN)]]] [] (ret [.sl (l.map (encU u))]) := by
  apply ctr_b A28_ok rfl (Nat.le_of_ble_eq_true rfl)
  unfold A28
  simp only [initL, Nat.reduceAdd]
  simp (config := {maxSteps := 2000000, implicitDefEqProofs := false}) (disch := omega) only [↓reduceIte, go_sem, Int.reduceToNat, Nat.reduceAdd, Nat.reduceLeDiff, Nat.reduceEqDiff, Nat.reduceSub, Nat.reduceMul, reduceCtorEq]
  refine loopL (σ := Nat) (fun s => ⟨[(1, .fn 29 [.rp [.sl (u.map encN)]]), (5, .hs 5 s 0 s), (8, .sl (l.map encS)), (9, .int .i64 l.length), (10, .int .i64 s)], [(5, .arr s 6 ((l.take s).map (encU u)))]⟩)
    (fun s => s ≤ l.length) (fun s => l.length - s) 0 (by simp (config := {maxSteps := 2000000, implicitDefEqProofs := false}) (disch := omega) only [↓reduceIte, go_sem, Int.reduceToNat, Nat.reduceAdd, Nat.reduceLeDiff, Nat.reduceEqDiff, Nat.reduceSub, Nat.reduceMul, reduceCtorEq]; rfl) (Nat.zero_le _) ?_
  rintro s h1
  have htl : (l.take s).length = s := by rw [List.length_take]; omega
  simp (config := {maxSteps := 2000000, implicitDefEqProofs := false}) (disch := omega) only [↓reduceIte, go_sem, Int.reduceToNat, Nat.reduceAdd, Nat.reduceLeDiff, Nat.reduceEqDiff, Nat.reduceSub, Nat.reduceMul, reduceCtorEq]
  refine ifD (fun c => ?_) (fun c => ?_)
  · have hs : s < l.length := by omega
    have hg := seg_get hs
    have ht : l.take (s + 1) = l.take s ++ [l[s]!] := by rw [List.take_add_one]; simp [hs]
    generalize l[s]! = x at hg ht
    simp only [encS] at hg
    simp (config := {maxSteps := 2000000, implicitDefEqProofs := false}) (disch := omega) only [↓reduceIte, go_sem, Int.reduceToNat, Nat.reduceAdd, Nat.reduceLeDiff, Nat.reduceEqDiff, Nat.reduceSub, Nat.reduceMul, reduceCtorEq, hg]
    refine ifE (fun e => ?_) (fun e => ?_)
    · simp (config := {maxSteps := 2000000, implicitDefEqProofs := false}) (disch := omega) only [↓reduceIte, go_sem, Int.reduceToNat, Nat.reduceAdd, Nat.reduceLeDiff, Nat.reduceEqDiff, Nat.reduceSub, Nat.reduceMul, reduceCtorEq, hg]
      refine callL (C29 u x.loc.n hu) ?_
      simp (config := {maxSteps := 2000000, implicitDefEqProofs := false}) (disch := omega) only [↓reduceIte, go_sem, Int.reduceToNat, Nat.reduceAdd, Nat.reduceLeDiff, Nat.reduceEqDiff, Nat.reduceSub, Nat.reduceMul, reduceCtorEq, hg, htl]
      refine ⟨s + 1, ?_, by omega, by omega⟩
      rw [ht]
      simp [encU, turnS, slotB, e, encS]
    · simp (config := {maxSteps := 2000000, implicitDefEqProofs := false}) (disch := omega) only [↓reduceIte, go_sem, Int.reduceToNat, Nat.reduceAdd, Nat.reduceLeDiff, Nat.reduceEqDiff, Nat.reduceSub, Nat.reduceMul, reduceCtorEq, hg, htl]
      refine ⟨s + 1, ?_, by omega, by omega⟩
      rw [ht]
      simp [encU, turnS, slotB, e, encS]
  · have hs : s = l.length := by omega
    subst hs
    simp (config := {maxSteps := 2000000, implicitDefEqProofs := false}) (disch := omega) only [↓reduceIte, go_sem, Int.reduceToNat, Nat.reduceAdd, Nat.reduceLeDiff, Nat.reduceEqDiff, Nat.reduceSub, Nat.reduceMul, reduceCtorEq, htl]
    refine ⟨?_, rfl⟩
    rw [List.take_length, List.take_of_length_le (by simp)]
noncomputable def numF (l : List Seg) : List Seg := l.map (turnS (usedF l))
theorem C17 (l : List Seg) (hl : l.length ≤ 40) : Ctr Try.prog 17 [.sl (l.map encS)] [] (ret [.sl ((numF l).map encS)]) := by
  have hlen := usedF_len l
  apply ctr_b A17_ok rfl (Nat.le_of_ble_eq_true rfl)
  unfold A17
  simp only [initL, Nat.reduceAdd]
  simp (config := {maxSteps := 2000000, implicitDefEqProofs := false}) (disch := omega) only [↓reduceIte, go_sem, Int.reduceToNat, Nat.reduceAdd, Nat.reduceLeDiff, Nat.reduceEqDiff, Nat.reduceSub, Nat.reduceMul, reduceCtorEq]
  refine callL (C12 l hl) ?_
  simp (config := {maxSteps := 2000000, implicitDefEqProofs := false}) (disch := omega) only [↓reduceIte, go_sem, Int.reduceToNat, Nat.reduceAdd, Nat.reduceLeDiff, Nat.reduceEqDiff, Nat.reduceSub, Nat.reduceMul, reduceCtorEq]
  refine callL (C28 (usedF l) l (by omega) (by omega)) ?_
  simp (config := {maxSteps := 2000000, implicitDefEqProofs := false}) (disch := omega) only [↓reduceIte, go_sem, Int.reduceToNat, Nat.reduceAdd, Nat.reduceLeDiff, Nat.reduceEqDiff, Nat.reduceSub, Nat.reduceMul, reduceCtorEq]
  refine ⟨?_, rfl⟩
  simp [numF, encU]
theorem C18 (n : Int) : Ctr Try.prog 18 [.int .i64 n] [] (ret [.agg [.int .i64 3, .int .i64 0, .int .i64 n]]) := by
  apply ctr_b A18_ok rfl (Nat.le_of_ble_eq_true rfl)
  unfold A18
  simp only [initL, Nat.reduceAdd]
  simp (config := {maxSteps := 2000000, implicitDefEqProofs := false}) (disch := omega) only [↓reduceIte, go_sem, Int.reduceToNat, Nat.reduceAdd, Nat.reduceLeDiff, Nat.reduceEqDiff, Nat.reduceSub, Nat.reduceMul, reduceCtorEq]
  exact ⟨rfl, rfl⟩
end Go.Proofs.Ytcpjfjdlifjbhaa.X
namespace Go.Proofs.Ytcpjfjdlifjbhaa.X
open Go Go.AM Go.Proofs
attribute [local go_sem ↓] w_skip w_lbl w_ops w_draw w_pre w_post w_alt w_seq w_cond w_block w_loop w_exit w_ret w_scope w_rfunc l_nil l_cons th_n th_e th_r bk_n bk_r bk_e t_nil t_it t_call i_nil i_one i_grp s_nil s_cons c_call e_mv e_nil e_frz o_mov o_bin o_eq o_un o_conv o_len o_slen o_idx o_aix o_fad o_load o_store o_boxp o_boxo o_boxm o_alloc o_alloca o_nilarr o_build o_bslp o_bslo o_slc o_sslc o_slc3 o_sidx o_mkfn o_ext o_pick o_callf o_callb o_appd o_clear o_mxn o_field o_nilc o_make o_buildm o_boxg o_mkif o_tass o_eqs o_callo k_int k_str k_bool k_grb k_grt k_some k_none k_arr k_lens k_lenf k_lenh k_idxs k_idxf k_idxh k_ld k_loadp k_loadr k_loade k_storer k_storee k_oin k_ois k_slcs k_slcf k_slch k_slc3s k_slc3f k_slc3h k_app2 k_apps k_appf k_apph k_cals k_cald k_cali k_cnb k_cna k_esn k_esc k_efn k_efc k_esh b_add b_sub b_mul b_quo b_rem b_and b_or b_xor b_andNot b_eql b_neq b_lss b_leq b_gtr b_geq b_shl b_shr b_seq b_sne b_slt b_sad q_bool q_str q_nil q_nilf u_not u_neg u_xor f_ret f_nor v_r v_c v_reg v_ob v_set v_put v_so v_sn v_pn v_pc g_nil d_nil p_nil m_mv m_fr z_nil z_cons z_an z_ac g_cons d_cons p_cons y_mov y_bin y_eq y_un y_conv y_len y_slen y_idx y_aix y_fad y_load y_store y_boxp y_boxo y_boxm y_alloc y_alloca y_nilarr y_build y_bslp y_bslo y_slc y_sslc y_slc3 y_sidx y_mkfn y_ext y_pick y_callf y_callb y_appd y_clear y_mxn y_field y_nilc y_make y_buildm y_boxg y_mkif y_tass y_eqs y_callo nb_if
attribute [local go_sem] VL_mk VL2_mk If_t If_f If_not If_and If_or If_dt If_df If_et If_ef If_ne Ck_t Ck_h Opt_s ld_a ld_c renL ren keepR renA idxM invL getObs mapOb renOb allNone putAll fzR fzO fz fzL fzOb frzOk upFrom mapR resOne resA cellsOf oneA oneAL isP isPL okSt kRows kParts fillA setAt bor bor0 bor1 bor2 borC borI key0 key1 key2 keysA fillM cellsM cellM unif ptrA ifOk kPartsM getObsM allNoneM zipU scal0 scalar eqC evNil evNilF List.map_cons List.map_nil List.cons_append List.nil_append List.append_nil List.drop_zero List.drop_succ_cons List.drop_nil List.take_succ_cons List.take_zero List.take_nil List.length_cons List.length_nil List.length_map List.getElem?_map Option.map_some Option.map_none Int.toNat_natCast Int.toNat_zero Int.toNat_one Int.natCast_nonneg List.flatMap_cons List.flatMap_nil List.all_cons List.all_nil Bool.and_true Bool.true_and Bool.and_false Bool.false_and Bool.not_true Bool.not_false beq_self_eq_true nb_self all_nil List.forall_mem_cons tk_map tk_app bs_self bs_dec bq_t bq_f Bool.not_not decide_true decide_false Bool.not_not and_self and_true true_and eq_self List.reverse_cons List.reverse_nil List.getElem?_cons_zero List.getElem?_cons_succ cond_true cond_false List.set_cons_zero List.set_cons_succ Nat.zero_add Nat.add_zero if_true if_false ite_true ite_false implies_true wrap64 wrap8
set_option linter.unusedVariables false
set_option linter.unusedSimpArgs false
set_option maxRecDepth 10000
theorem dd_notin : ∀ {S : List Tg} {seen : List Int} {n : Int}, n ∈ dd seen S → n ∉ seen
  | [], seen, n, h => by simp [dd] at h
  | t :: S, seen, n, h => by
    rw [dd_cons] at h
    split at h
    · rename_i hc
      simp only [Bool.and_eq_true, Bool.not_eq_true', ← Bool.not_eq_true, List.contains_iff_mem] at hc
      rcases List.mem_cons.1 h with rfl | h
      · exact hc.2
      · intro hm
        exact dd_notin h (by simp [hm])
    · exact dd_notin h
theorem dd_nodup : ∀ (S : List Tg) (seen : List Int), (dd seen S).Nodup
  | [], seen => by simp [dd]
  | t :: S, seen => by
    rw [dd_cons]
    split
    · rw [List.nodup_cons]
      refine ⟨fun h => dd_notin h (by simp), dd_nodup S _⟩
    · exact dd_nodup S _
theorem used_nodup (l : List Seg) : (usedF l).Nodup := dd_nodup _ _
theorem dd_all : ∀ {S : List Tg} {seen : List Int} {t : Tg}, t ∈ S → slotB t.1 = true → t.1.loc.n ∈ seen ∨ t.1.loc.n ∈ dd seen S
  | x :: S, seen, t, h, hs => by
    rw [dd_cons]
    rcases List.mem_cons.1 h with rfl | h
    · by_cases hc : t.1.loc.n ∈ seen
      · exact .inl hc
      · right
        have : (seen.contains t.1.loc.n) = false := by rw [← Bool.not_eq_true, List.contains_iff_mem]; exact hc
        rw [if_pos (by rw [hs, this]; rfl)]
        simp
    · split
      · rcases dd_all (seen := seen ++ [x.1.loc.n]) h hs with h1 | h1
        · rcases List.mem_append.1 h1 with h1 | h1
          · exact .inl h1
          · right
            rw [List.mem_singleton.1 h1]
            simp
        · right
          simp [h1]
      · exact dd_all h hs
theorem mem_srt {l : List Seg} {s : Seg} (h : s ∈ l) : ∃ t ∈ srtT l, t.1 = s := by
  obtain ⟨i, hi⟩ := List.getElem?_of_mem h
  exact ⟨(s, i), (srt_perm l).mem_iff.2 (by rw [List.mem_zipIdx_iff_getElem?]; exact hi), rfl⟩
theorem used_all {l : List Seg} {s : Seg} (h : s ∈ l) (hs : slotB s = true) : s.loc.n ∈ usedF l := by
  obtain ⟨t, ht, e⟩ := mem_srt h
  subst e
  rcases dd_all (seen := []) ht hs with h1 | h1
  · simp at h1
  · exact h1
theorem shared_has {l : List Seg} {n : Int} (h : n ∈ usedF l) : (sharedF l).contains n = sevB l n := by
  rw [Bool.eq_iff_iff, List.contains_iff_mem]
  unfold sharedF
  rw [List.mem_mergeSort, List.mem_filter]
  exact ⟨fun h => h.2, fun h2 => ⟨h, h2⟩⟩
theorem shared_len (l : List Seg) : (sharedF l).length = ((usedF l).filter (sevB l)).length := List.length_mergeSort _
theorem shared_rise {l : List Seg} {i : Nat} (h : i + 1 < (sharedF l).length) : (sharedF l)[i]! < (sharedF l)[i + 1]! := by
  have h1 : (sharedF l).Pairwise fun x y => leI x y = true := List.pairwise_mergeSort (fun a b c h1 h2 => by simp only [leI, decide_eq_true_eq] at *; omega) (fun a b => by simp only [leI, Bool.or_eq_true, decide_eq_true_eq]; omega) _
  have h2 : (sharedF l).Nodup := (List.mergeSort_perm _ _).symm.nodup ((used_nodup l).sublist List.filter_sublist)
  have h3 := h1.and h2
  rw [List.pairwise_iff_getElem] at h3
  have := h3 i (i + 1) (by omega) h (by omega)
  simp only [leI, decide_eq_true_eq] at this
  rw [getElem!_pos _ i (by omega), getElem!_pos _ (i + 1) h]
  omega
/-- Who was met, of the first j, at a slot. -/
structure WhoI (l : List Seg) (n : Int) (j : Nat) (w : List Int) : Prop where
  all : ∀ s ∈ l.take j, atB n s = true → s.v ∈ w
  src : ∀ v ∈ w, ∃ s ∈ l, atB n s = true ∧ s.v = v
  nd : w.Nodup
  len : w.length ≤ j
theorem WhoI.zero (l : List Seg) (n : Int) : WhoI l n 0 [] := ⟨by simp, by simp, by simp, by simp⟩
theorem WhoI.same {l : List Seg} {n : Int} {j : Nat} {w : List Int} {s : Seg} (h : WhoI l n j w) (hs : l[j]? = some s) (hc : atB n s = false ∨ s.v ∈ w) : WhoI l n (j + 1) w := by
  refine ⟨fun x hx hx2 => ?_, h.src, h.nd, by have := h.len; omega⟩
  rw [List.take_add_one, hs] at hx
  simp only [Option.toList_some, List.mem_append, List.mem_singleton] at hx
  rcases hx with hx | rfl
  · exact h.all x hx hx2
  · rcases hc with hc | hc
    · rw [hc] at hx2; cases hx2
    · exact hc
theorem WhoI.more {l : List Seg} {n : Int} {j : Nat} {w : List Int} {s : Seg} (h : WhoI l n j w) (hs : l[j]? = some s) (hc : atB n s = true) (hn : s.v ∉ w) : WhoI l n (j + 1) (w ++ [s.v]) := by
  refine ⟨fun x hx hx2 => ?_, fun v hv => ?_, ?_, by have := h.len; simp; omega⟩
  · rw [List.take_add_one, hs] at hx
    simp only [Option.toList_some, List.mem_append, List.mem_singleton] at hx
    rcases hx with hx | rfl
    · simp [h.all x hx hx2]
    · simp
  · rcases List.mem_append.1 hv with hv | hv
    · exact h.src v hv
    · rw [List.mem_singleton] at hv
      exact ⟨s, List.mem_of_getElem? hs, hc, hv.symm⟩
  · rw [List.nodup_append]
    refine ⟨h.nd, by simp, fun a ha b hb e => ?_⟩
    rw [List.mem_singleton] at hb
    exact hn (by rw [← hb, ← e]; exact ha)
theorem WhoI.sev {l : List Seg} {n : Int} {w : List Int} (h : WhoI l n l.length w) : decide ((w.length : Int) > 1) = sevB l n := by
  have hall := h.all
  rw [List.take_length] at hall
  rw [Bool.eq_iff_iff, decide_eq_true_eq]
  unfold sevB
  constructor
  · intro hl
    obtain ⟨a, b, w', e⟩ : ∃ a b w', w = a :: b :: w' := by
      match w, hl with
      | [], hl => simp at hl
      | [a], hl => simp at hl
      | a :: b :: w', _ => exact ⟨a, b, w', rfl⟩
    have hab : a ≠ b := by
      have := h.nd
      rw [e, List.nodup_cons] at this
      intro h2
      exact this.1 (by simp [h2])
    obtain ⟨x, hx, hx1, hx2⟩ := h.src a (by simp [e])
    obtain ⟨y, hy, hy1, hy2⟩ := h.src b (by simp [e])
    obtain ⟨s, hs⟩ := sev_some ⟨x, hx, hx1⟩
    rw [hs]
    simp only [List.any_eq_true]
    by_cases h3 : x.v = s.v
    · exact ⟨y, hy, by simp only [elseB, hy1, Bool.true_and, Bool.not_eq_true', beq_eq_false_iff_ne]; omega⟩
    · exact ⟨x, hx, by simp only [elseB, hx1, Bool.true_and, Bool.not_eq_true', beq_eq_false_iff_ne]; omega⟩
  · intro hs
    cases hf : l.find? (atB n) with
    | none => rw [hf] at hs; cases hs
    | some s =>
      rw [hf] at hs
      simp only [List.any_eq_true] at hs
      obtain ⟨x, hx, hx2⟩ := hs
      simp only [elseB, Bool.and_eq_true, Bool.not_eq_true', beq_eq_false_iff_ne] at hx2
      have m1 := hall x hx hx2.1
      have m2 := hall s (List.mem_of_find?_eq_some hf) (List.find?_some hf)
      match w, m1, m2 with
      | [], m1, _ => simp at m1
      | [a], m1, m2 => simp at m1 m2; omega
      | a :: b :: w', _, _ => simp; omega
/-! The new numbers. -/
theorem ix_at {u : List Int} (hu : u.Nodup) {i : Nat} (hi : i < u.length) : ixF (u[i] == ·) u = i := by
  refine ixF_hit (x := u[i]) (List.getElem?_eq_getElem hi) (by simp) fun j y hj hy => ?_
  rw [List.getElem?_eq_getElem (by omega)] at hy
  cases hy
  rw [beq_eq_false_iff_ne]
  intro e
  have := (List.pairwise_iff_getElem.1 hu) j i (by omega) hi hj
  exact this e.symm
theorem ix_inj {u : List Int} (hu : u.Nodup) {a b : Int} (ha : a ∈ u) (hb : b ∈ u) (h : ixF (a == ·) u = ixF (b == ·) u) : a = b := by
  obtain ⟨i, hi, rfl⟩ := List.getElem_of_mem ha
  obtain ⟨j, hj, rfl⟩ := List.getElem_of_mem hb
  rw [ix_at hu hi, ix_at hu hj] at h
  have : i = j := by omega
  subst this
  rfl
theorem turn_slot (u : List Int) (s : Seg) : slotB (turnS u s) = slotB s := by
  unfold turnS
  split
  · rfl
  · rfl
theorem turn_fr (u : List Int) (s : Seg) : (turnS u s).fr = s.fr ∧ (turnS u s).v = s.v := by
  unfold turnS
  split
  · exact ⟨rfl, rfl⟩
  · exact ⟨rfl, rfl⟩
theorem turn_lt (u : List Int) (x y : Tg) : ltT (turnS u x.1, x.2) (turnS u y.1, y.2) ↔ ltT x y := by
  unfold ltT
  simp only [turn_fr]
theorem pw_sorted {T : List Tg} (h : T.Pairwise ltT) : SortedT T 0 T.length := by
  intro i j _ hij hj
  have := (List.pairwise_iff_getElem.1 h) i j (by omega) hj hij
  rw [getElem!_pos _ i (by omega), getElem!_pos _ j hj]
  exact this
theorem srt_turn (u : List Int) (l : List Seg) : srtT (l.map (turnS u)) = (srtT l).map fun t => (turnS u t.1, t.2) := by
  symm
  refine srt_eq _ ?_ (pw_sorted ?_)
  · have := (srt_perm l).map fun t => (turnS u t.1, t.2)
    refine this.trans (List.Perm.of_eq ?_)
    rw [List.zipIdx_map]
    rfl
  · rw [List.pairwise_map]
    exact (srt_lt l).imp fun {a b} h => (turn_lt u a b).2 h
theorem dd_turn {u : List Int} (hu : u.Nodup) : ∀ {S : List Tg} {seen : List Int}, (∀ n ∈ seen, n ∈ u) → (∀ t ∈ S, slotB t.1 = true → t.1.loc.n ∈ u) →
    dd (seen.map fun n => ixF (n == ·) u) (S.map fun t => (turnS u t.1, t.2)) = (dd seen S).map fun n => ixF (n == ·) u
  | [], seen, _, _ => rfl
  | t :: S, seen, h1, h2 => by
    rw [List.map_cons, dd_cons, dd_cons]
    simp only [turn_slot]
    by_cases hs : slotB t.1 = true
    · have hn := h2 t (by simp) hs
      have e : (turnS u t.1).loc.n = ixF (t.1.loc.n == ·) u := by unfold turnS; rw [if_pos hs]
      have hc : (seen.map fun n => ixF (n == ·) u).contains (ixF (t.1.loc.n == ·) u) = seen.contains t.1.loc.n := by
        rw [Bool.eq_iff_iff, List.contains_iff_mem, List.contains_iff_mem, List.mem_map]
        constructor
        · rintro ⟨n, hn1, hn2⟩
          rw [← ix_inj hu (h1 n hn1) hn hn2]
          exact hn1
        · intro h
          exact ⟨_, h, rfl⟩
      rw [e, hc]
      split
      · rw [List.map_cons]
        congr 1
        have := dd_turn hu (S := S) (seen := seen ++ [t.1.loc.n]) (fun n hn' => by
          rcases List.mem_append.1 hn' with h | h
          · exact h1 n h
          · rw [List.mem_singleton.1 h]; exact hn) fun x hx => h2 x (by simp [hx])
        rw [List.map_append] at this
        exact this
      · exact dd_turn hu h1 fun x hx => h2 x (by simp [hx])
    · have hs : slotB t.1 = false := by simpa using hs
      rw [hs]
      simp only [Bool.false_and, Bool.false_eq_true, if_false]
      exact dd_turn hu h1 fun x hx => h2 x (by simp [hx])
theorem used_num (l : List Seg) : usedF (numF l) = (usedF l).map fun n => ixF (n == ·) (usedF l) := by
  unfold numF
  rw [show usedF (l.map (turnS (usedF l))) = dd [] (srtT (l.map (turnS (usedF l)))) from rfl, srt_turn]
  exact dd_turn (used_nodup l) (seen := []) (by simp) fun t ht hs => used_all (srt_mem ht) hs
theorem num_dense (l : List Seg) : denseF (usedF (numF l)) = true := by
  rw [used_num]
  refine denseF_true fun j hj => ?_
  rw [List.length_map] at hj
  rw [getElem!_pos _ j (by rw [List.length_map]; exact hj), List.getElem_map]
  exact ix_at (used_nodup l) hj
theorem dense_ix {l : List Seg} (h : denseF (usedF l) = true) {n : Int} (hn : n ∈ usedF l) : ixF (n == ·) (usedF l) = n := by
  obtain ⟨i, hi, rfl⟩ := List.getElem_of_mem hn
  rw [ix_at (used_nodup l) hi]
  unfold denseF at h
  rw [beq_iff_eq] at h
  have : (usedF l)[i]? = ((List.range (usedF l).length).map fun i : Nat => (i : Int))[i]? := by rw [← h]
  simp [hi] at this
  rw [this]
theorem turn_same {l : List Seg} {s : Seg} (hs : s ∈ l) (h : slotB s = false ∨ denseF (usedF l) = true) : turnS (usedF l) s = s := by
  unfold turnS
  split
  · rename_i h1
    rcases h with h | h
    · rw [h] at h1; cases h1
    · rw [dense_ix h (used_all hs h1)]
  · rfl
theorem turn_eq {l : List Seg} {s t : Seg} (hs : s ∈ l) (ht : t ∈ l) (h1 : slotB s = true) (h2 : slotB t = true) : (((turnS (usedF l) s).loc.n == (turnS (usedF l) t).loc.n)) = (s.loc.n == t.loc.n) := by
  unfold turnS
  rw [if_pos h1, if_pos h2]
  simp only
  rw [Bool.eq_iff_iff, beq_iff_eq, beq_iff_eq]
  exact ⟨fun h => ix_inj (used_nodup l) (used_all hs h1) (used_all ht h2) h, fun h => by rw [h]⟩
/-! The example. -/
instance (x y : Tg) : Decidable (ltT x y) := by unfold ltT; infer_instance
def exL : List Seg := [⟨1, 6, 9, ⟨3, 0, 4⟩⟩, ⟨2, 0, 3, ⟨3, 0, 7⟩⟩, ⟨2, 5, 6, ⟨3, 0, 4⟩⟩, ⟨3, 0, 1, ⟨2, 0, 9⟩⟩]
theorem ex_srt : srtT exL = [(⟨2, 0, 3, ⟨3, 0, 7⟩⟩, 1), (⟨3, 0, 1, ⟨2, 0, 9⟩⟩, 3), (⟨2, 5, 6, ⟨3, 0, 4⟩⟩, 2), (⟨1, 6, 9, ⟨3, 0, 4⟩⟩, 0)] := by
  symm
  exact srt_eq _ (by decide) (pw_sorted (by decide))
theorem ex_used : usedF exL = [7, 4] := by
  unfold usedF
  rw [ex_srt]
  decide
theorem ex_num : numF exL = [⟨1, 6, 9, ⟨3, 0, 1⟩⟩, ⟨2, 0, 3, ⟨3, 0, 0⟩⟩, ⟨2, 5, 6, ⟨3, 0, 1⟩⟩, ⟨3, 0, 1, ⟨2, 0, 9⟩⟩] := by
  unfold numF
  rw [ex_used]
  decide
theorem ex_shared : sharedF exL = [4] := by
  unfold sharedF
  rw [ex_used, show ([7, 4] : List Int).filter (sevB exL) = [4] by decide]
  simp
theorem C5 : Ctr Try.prog 5 [] [] (ret [.bool true]) := by
  have h17 := C17 exL (by decide)
  have h13 := C13 exL (by decide)
  have h13n := C13 (numF exL) (by rw [ex_num]; decide)
  rw [num_dense] at h13n
  have h12 := C12 exL (by decide)
  have h8 := C8 exL (by decide)
  have h15 := C15 exL (by decide)
  have h6 := C6 exL 2 (by decide)
  rw [ex_used] at h13 h12
  rw [ex_num] at h17 h13n
  rw [ex_shared] at h8
  rw [show denseF [7, 4] = false by decide] at h13
  rw [show ixF (strayB exL) exL = 2 by decide] at h15
  rw [show homeN exL 2 = 7 by decide, show (homeF exL 2).isSome = true by decide] at h6
  have h11a := C11 [7, 4] [7, 4] (by decide) (by decide)
  have h11b := C11 [4] [4] (by decide) (by decide)
  simp only [exL, List.map_cons, List.map_nil, encS, encN] at h17 h13 h13n h12 h8 h15 h6 h11a h11b
  apply ctr_b A5_ok rfl (Nat.le_of_ble_eq_true rfl)
  unfold A5
  simp only [initL, Nat.reduceAdd]
  simp (config := {maxSteps := 2000000, implicitDefEqProofs := false}) (disch := omega) only [↓reduceIte, go_sem, Int.reduceToNat, Nat.reduceAdd, Nat.reduceLeDiff, Nat.reduceEqDiff, Nat.reduceSub, Nat.reduceMul, reduceCtorEq]
  refine callL (C18 4) ?_
  simp (config := {maxSteps := 2000000, implicitDefEqProofs := false}) (disch := omega) only [↓reduceIte, go_sem, Int.reduceToNat, Nat.reduceAdd, Nat.reduceLeDiff, Nat.reduceEqDiff, Nat.reduceSub, Nat.reduceMul, reduceCtorEq]
  refine callL (C18 7) ?_
  simp (config := {maxSteps := 2000000, implicitDefEqProofs := false}) (disch := omega) only [↓reduceIte, go_sem, Int.reduceToNat, Nat.reduceAdd, Nat.reduceLeDiff, Nat.reduceEqDiff, Nat.reduceSub, Nat.reduceMul, reduceCtorEq]
  refine callL (C18 4) ?_
  simp (config := {maxSteps := 2000000, implicitDefEqProofs := false}) (disch := omega) only [↓reduceIte, go_sem, Int.reduceToNat, Nat.reduceAdd, Nat.reduceLeDiff, Nat.reduceEqDiff, Nat.reduceSub, Nat.reduceMul, reduceCtorEq]
  refine callL h17 ?_
  simp (config := {maxSteps := 2000000, implicitDefEqProofs := false}) (disch := omega) only [↓reduceIte, go_sem, Int.reduceToNat, Nat.reduceAdd, Nat.reduceLeDiff, Nat.reduceEqDiff, Nat.reduceSub, Nat.reduceMul, reduceCtorEq]
  refine callL h6 ?_
  simp (config := {maxSteps := 2000000, implicitDefEqProofs := false}) (disch := omega) only [↓reduceIte, go_sem, Int.reduceToNat, Nat.reduceAdd, Nat.reduceLeDiff, Nat.reduceEqDiff, Nat.reduceSub, Nat.reduceMul, reduceCtorEq]
  refine callL h12 ?_
  simp (config := {maxSteps := 2000000, implicitDefEqProofs := false}) (disch := omega) only [↓reduceIte, go_sem, Int.reduceToNat, Nat.reduceAdd, Nat.reduceLeDiff, Nat.reduceEqDiff, Nat.reduceSub, Nat.reduceMul, reduceCtorEq]
  refine callL h11a ?_
  simp (config := {maxSteps := 2000000, implicitDefEqProofs := false}) (disch := omega) only [↓reduceIte, go_sem, Int.reduceToNat, Nat.reduceAdd, Nat.reduceLeDiff, Nat.reduceEqDiff, Nat.reduceSub, Nat.reduceMul, reduceCtorEq]
  refine callL h13 ?_
  simp (config := {maxSteps := 2000000, implicitDefEqProofs := false}) (disch := omega) only [↓reduceIte, go_sem, Int.reduceToNat, Nat.reduceAdd, Nat.reduceLeDiff, Nat.reduceEqDiff, Nat.reduceSub, Nat.reduceMul, reduceCtorEq]
  refine callL h13n ?_
  simp (config := {maxSteps := 2000000, implicitDefEqProofs := false}) (disch := omega) only [↓reduceIte, go_sem, Int.reduceToNat, Nat.reduceAdd, Nat.reduceLeDiff, Nat.reduceEqDiff, Nat.reduceSub, Nat.reduceMul, reduceCtorEq]
  refine callL (C18 1) ?_
  simp (config := {maxSteps := 2000000, implicitDefEqProofs := false}) (disch := omega) only [↓reduceIte, go_sem, Int.reduceToNat, Nat.reduceAdd, Nat.reduceLeDiff, Nat.reduceEqDiff, Nat.reduceSub, Nat.reduceMul, reduceCtorEq]
  refine callL h15 ?_
  simp (config := {maxSteps := 2000000, implicitDefEqProofs := false}) (disch := omega) only [↓reduceIte, go_sem, Int.reduceToNat, Nat.reduceAdd, Nat.reduceLeDiff, Nat.reduceEqDiff, Nat.reduceSub, Nat.reduceMul, reduceCtorEq]
  refine callL h8 ?_
  simp (config := {maxSteps := 2000000, implicitDefEqProofs := false}) (disch := omega) only [↓reduceIte, go_sem, Int.reduceToNat, Nat.reduceAdd, Nat.reduceLeDiff, Nat.reduceEqDiff, Nat.reduceSub, Nat.reduceMul, reduceCtorEq]
  refine callL h11b ?_
  simp (config := {maxSteps := 2000000, implicitDefEqProofs := false}) (disch := omega) only [↓reduceIte, go_sem, Int.reduceToNat, Nat.reduceAdd, Nat.reduceLeDiff, Nat.reduceEqDiff, Nat.reduceSub, Nat.reduceMul, reduceCtorEq]
  refine accL (by kernel_rfl) ?_
  simp (config := {maxSteps := 2000000, implicitDefEqProofs := false}) (disch := omega) only [↓reduceIte, go_sem, Int.reduceToNat, Nat.reduceAdd, Nat.reduceLeDiff, Nat.reduceEqDiff, Nat.reduceSub, Nat.reduceMul, reduceCtorEq]
  exact ⟨rfl, rfl⟩
end Go.Proofs.Ytcpjfjdlifjbhaa.X
