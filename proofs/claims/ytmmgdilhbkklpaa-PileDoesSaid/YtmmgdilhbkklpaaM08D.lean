import Derived.Test.YtmmgdilhbkklpaaM08C
namespace Go.Proofs.Ytmmgdilhbkklpaa.X
open Go Go.AM Go.Proofs
attribute [local go_sem ↓] w_skip w_lbl w_ops w_draw w_pre w_post w_alt w_seq w_cond w_block w_loop w_exit w_ret w_scope th_n th_e th_r bk_n bk_r bk_e t_nil t_it t_call i_nil i_one i_grp s_nil s_cons c_call e_mv e_frz o_mov o_bin o_eq o_un o_conv o_len o_slen o_idx o_aix o_fad o_load o_store o_boxp o_boxo o_boxm o_alloc o_alloca o_nilarr o_build o_bslp o_bslo o_slc o_sslc o_slc3 o_sidx o_mkfn o_ext o_pick o_callf o_callb o_appd o_clear o_mxn o_field o_nilc o_make o_buildm o_boxg o_mkif o_tass o_eqs o_callo k_int k_str k_bool k_grb k_grt k_some k_none k_arr k_lens k_lenf k_lenh k_idxs k_idxf k_idxh k_ld k_loadp k_loadr k_loade k_storer k_storee k_oin k_ois k_slcs k_slcf k_slch k_slc3s k_slc3f k_slc3h k_app2 k_apps k_appf k_apph k_cals k_cald k_cali k_cnb k_cna k_esn k_esc k_efn k_efc k_esh b_add b_sub b_mul b_quo b_rem b_and b_or b_xor b_andNot b_eql b_neq b_lss b_leq b_gtr b_geq b_shl b_shr b_seq b_sne b_slt b_sad q_bool q_str q_nil q_nilf u_not u_neg u_xor f_ret f_nor v_r v_c v_reg v_ob v_set v_put v_so v_sn v_pn v_pc g_nil d_nil p_nil m_mv m_fr z_nil z_cons z_an z_ac g_cons d_cons p_cons y_mov y_bin y_eq y_un y_conv y_len y_slen y_idx y_aix y_fad y_load y_store y_boxp y_boxo y_boxm y_alloc y_alloca y_nilarr y_build y_bslp y_bslo y_slc y_sslc y_slc3 y_sidx y_mkfn y_ext y_pick y_callf y_callb y_appd y_clear y_mxn y_field y_nilc y_make y_buildm y_boxg y_mkif y_tass y_eqs y_callo nb_if
attribute [local go_sem] VL_mk VL2_mk If_t If_f If_not If_and If_or If_dt If_df If_et If_ef If_ne Ck_t Ck_h Opt_s ld_a ld_c renL ren keepR renA idxM invL getObs mapOb renOb allNone putAll fzR fzO fz fzL fzOb frzOk upFrom mapR resOne resA cellsOf oneA oneAL isP isPL okSt kRows kParts fillA setAt bor bor0 bor1 bor2 borC borI key0 key1 key2 keysA fillM cellsM cellM unif ptrA ifOk kPartsM getObsM allNoneM zipU scal0 scalar eqC evNil evNilF List.map_cons List.map_nil List.cons_append List.nil_append List.append_nil List.drop_zero List.drop_succ_cons List.drop_nil List.take_succ_cons List.take_zero List.take_nil List.length_cons List.length_nil List.length_map List.getElem?_map Option.map_some Option.map_none Int.toNat_natCast Int.toNat_zero Int.toNat_one Int.natCast_nonneg List.flatMap_cons List.flatMap_nil List.all_cons List.all_nil Bool.and_true Bool.true_and Bool.and_false Bool.false_and Bool.not_true Bool.not_false beq_self_eq_true nb_self all_nil List.forall_mem_cons tk_map tk_app bs_self bs_dec bq_t bq_f Bool.not_not decide_true decide_false Bool.not_not and_self and_true true_and eq_self List.reverse_cons List.reverse_nil List.getElem?_cons_zero List.getElem?_cons_succ cond_true cond_false List.set_cons_zero List.set_cons_succ Nat.zero_add Nat.add_zero if_true if_false ite_true ite_false implies_true wrap64 wrap8
set_option linter.unusedVariables false
set_option linter.unusedSimpArgs false
set_option maxRecDepth 10000
/-- Where downF ends. -/
def downR : Nat → List It → Nat → Nat → Nat
  | 0, _, i, _ => i
  | k + 1, l, i, n => if 2 * i + 1 < n then (if bef l[kid l (2 * i + 1) n]! l[i]! = true then downR k (swp l i (kid l (2 * i + 1) n)) (kid l (2 * i + 1) n) n else i) else i
theorem C44' (l : List It) (i k : Nat) (a b : Int) (hi : i < l.length) (hk : k < l.length) (ea : a = i) (eb : b = k) : Ctr Try.prog 44 [.rp (rowP l), .int .i64 a, .int .i64 b] [] (ret [.bool (bef l[i]! l[k]!)]) := by
  rw [ea, eb]; exact C44 l i k hi hk
theorem C47' (v : Nat) (l : List It) (junk : List (List AV)) (i k : Nat) (a b : Int) (hi : i < l.length) (hk : k < l.length) (ea : a = i) (eb : b = k) : Ctr Try.prog 47 [.ref 0 0, .int .i64 a, .int .i64 b] (pileO v l junk) (retO [] (pileO v (swp l i k) junk)) := by
  rw [ea, eb]; exact C47 v l junk i k hi hk
theorem C26 (v : Nat) (l : List It) (junk : List (List AV)) (i n : Nat) (hn : n ≤ l.length) (hi : i ≤ l.length) (hl : l.length < 1000000000000) :
    Ctr Try.prog 26 [.mif 56 (.ref 0 0), .int .i64 i, .int .i64 n] (pileO v l junk) (retO [.bool (decide (downR (n - i) l i n > i))] (pileO v (downF (n - i) l i n) junk)) := by
  apply ctr_b A26_ok rfl (Nat.le_of_ble_eq_true rfl)
  unfold A26
  simp only [pileO, initL, Nat.reduceAdd]
  simp (config := {maxSteps := 2000000, implicitDefEqProofs := false}) (disch := omega) only [↓reduceIte, go_sem, Int.reduceToNat, Nat.reduceAdd, Nat.reduceLeDiff, Nat.reduceEqDiff, Nat.reduceSub, Nat.reduceMul, reduceCtorEq]
  refine loopL (σ := Nat × List It × Nat) (fun s => ⟨[(0, .mif 56 (.ref 0 0)), (1, .int .i64 i), (2, .int .i64 n), (7, .int .i64 s.2.2)], [(0, .box [.hs 1 v 0 s.2.1.length, .fn 19 []]), (1, .arr v 2 (s.2.1.map encIt ++ junk))]⟩)
    (fun s => downF s.1 s.2.1 s.2.2 n = downF (n - i) l i n ∧ downR s.1 s.2.1 s.2.2 n = downR (n - i) l i n ∧ s.2.1.length = l.length ∧ s.2.2 ≤ l.length ∧ n ≤ s.1 + s.2.2) (fun s => s.1) (n - i, l, i) (by simp (config := {maxSteps := 2000000, implicitDefEqProofs := false}) (disch := omega) only [↓reduceIte, go_sem, Int.reduceToNat, Nat.reduceAdd, Nat.reduceLeDiff, Nat.reduceEqDiff, Nat.reduceSub, Nat.reduceMul, reduceCtorEq]) ⟨rfl, rfl, rfl, hi, by simp only; omega⟩ ?_
  rintro ⟨k, l', j⟩ ⟨h1, h2, h3, h4, h5⟩
  simp only at h1 h2 h3 h4 h5
  simp (config := {maxSteps := 2000000, implicitDefEqProofs := false}) (disch := omega) only [↓reduceIte, go_sem, Int.reduceToNat, Nat.reduceAdd, Nat.reduceLeDiff, Nat.reduceEqDiff, Nat.reduceSub, Nat.reduceMul, reduceCtorEq]
  refine ifD (fun g1 => ?_) (fun g1 => ?_)
  · have hc : ¬ 2 * j + 1 < n := by omega
    have e1 : downF k l' j n = l' := by cases k <;> simp [downF, hc]
    have e2 : downR k l' j n = j := by cases k <;> simp [downR, hc]
    simp (config := {maxSteps := 2000000, implicitDefEqProofs := false}) (disch := omega) only [↓reduceIte, go_sem, Int.reduceToNat, Nat.reduceAdd, Nat.reduceLeDiff, Nat.reduceEqDiff, Nat.reduceSub, Nat.reduceMul, reduceCtorEq]
    rw [← h1, ← h2, e1, e2]
    simp [retO, Int.ofNat_lt]
  · have hc : 2 * j + 1 < n := by omega
    obtain ⟨k, rfl⟩ : ∃ k', k = k' + 1 := ⟨k - 1, by omega⟩
    simp only [downF, downR, hc, if_true] at h1 h2
    simp (config := {maxSteps := 2000000, implicitDefEqProofs := false}) (disch := omega) only [↓reduceIte, go_sem, Int.reduceToNat, Nat.reduceAdd, Nat.reduceLeDiff, Nat.reduceEqDiff, Nat.reduceSub, Nat.reduceMul, reduceCtorEq]
    refine ifD (fun g2 => ?_) (fun g2 => ?_)
    · simp (config := {maxSteps := 2000000, implicitDefEqProofs := false}) (disch := omega) only [↓reduceIte, go_sem, Int.reduceToNat, Nat.reduceAdd, Nat.reduceLeDiff, Nat.reduceEqDiff, Nat.reduceSub, Nat.reduceMul, reduceCtorEq, mLess]
      refine callL (C44' l' (2 * j + 1 + 1) (2 * j + 1) _ _ (by omega) (by omega) (by omega) (by omega)) ?_
      simp (config := {maxSteps := 2000000, implicitDefEqProofs := false}) (disch := omega) only [↓reduceIte, go_sem, Int.reduceToNat, Nat.reduceAdd, Nat.reduceLeDiff, Nat.reduceEqDiff, Nat.reduceSub, Nat.reduceMul, reduceCtorEq]
      refine ifL (fun g3 => ?_) (fun g3 => ?_)
      · have hm : kid l' (2 * j + 1) n = 2 * j + 1 + 1 := if_pos ⟨by omega, g3⟩
        rw [hm] at h1 h2
        simp (config := {maxSteps := 2000000, implicitDefEqProofs := false}) (disch := omega) only [↓reduceIte, go_sem, Int.reduceToNat, Nat.reduceAdd, Nat.reduceLeDiff, Nat.reduceEqDiff, Nat.reduceSub, Nat.reduceMul, reduceCtorEq, mLess]
        refine callL (C44' l' (2 * j + 1 + 1) j _ _ (by omega) (by omega) (by omega) (by omega)) ?_
        simp (config := {maxSteps := 2000000, implicitDefEqProofs := false}) (disch := omega) only [↓reduceIte, go_sem, Int.reduceToNat, Nat.reduceAdd, Nat.reduceLeDiff, Nat.reduceEqDiff, Nat.reduceSub, Nat.reduceMul, reduceCtorEq]
        refine ifL (fun g4 => ?_) (fun g4 => ?_)
        · rw [if_pos g4] at h1 h2
          simp (config := {maxSteps := 2000000, implicitDefEqProofs := false}) (disch := omega) only [↓reduceIte, go_sem, Int.reduceToNat, Nat.reduceAdd, Nat.reduceLeDiff, Nat.reduceEqDiff, Nat.reduceSub, Nat.reduceMul, reduceCtorEq, mSwap]
          refine callD (C47' v l' junk j (2 * j + 1 + 1) _ _ (by omega) (by omega) (by omega) (by omega)) ?_
          simp (config := {maxSteps := 2000000, implicitDefEqProofs := false}) (disch := omega) only [↓reduceIte, go_sem, Int.reduceToNat, Nat.reduceAdd, Nat.reduceLeDiff, Nat.reduceEqDiff, Nat.reduceSub, Nat.reduceMul, reduceCtorEq, pileO]
          exact ⟨(k, swp l' j (2 * j + 1 + 1), 2 * j + 1 + 1), by simp, ⟨h1, h2, by rw [swp_len]; exact h3, by simp only; omega, by simp only; omega⟩, by simp⟩
        · have g4 : ¬ bef l'[2 * j + 1 + 1]! l'[j]! = true := by rw [g4]; exact Bool.noConfusion
          rw [if_neg g4] at h1 h2
          simp (config := {maxSteps := 2000000, implicitDefEqProofs := false}) (disch := omega) only [↓reduceIte, go_sem, Int.reduceToNat, Nat.reduceAdd, Nat.reduceLeDiff, Nat.reduceEqDiff, Nat.reduceSub, Nat.reduceMul, reduceCtorEq]
          rw [← h1, ← h2]
          simp [retO, Int.ofNat_lt]
      · have hm : kid l' (2 * j + 1) n = 2 * j + 1 := if_neg (by rw [g3]; exact fun h => Bool.noConfusion h.2)
        rw [hm] at h1 h2
        simp (config := {maxSteps := 2000000, implicitDefEqProofs := false}) (disch := omega) only [↓reduceIte, go_sem, Int.reduceToNat, Nat.reduceAdd, Nat.reduceLeDiff, Nat.reduceEqDiff, Nat.reduceSub, Nat.reduceMul, reduceCtorEq, mLess]
        refine callL (C44' l' (2 * j + 1) j _ _ (by omega) (by omega) (by omega) (by omega)) ?_
        simp (config := {maxSteps := 2000000, implicitDefEqProofs := false}) (disch := omega) only [↓reduceIte, go_sem, Int.reduceToNat, Nat.reduceAdd, Nat.reduceLeDiff, Nat.reduceEqDiff, Nat.reduceSub, Nat.reduceMul, reduceCtorEq]
        refine ifL (fun g4 => ?_) (fun g4 => ?_)
        · rw [if_pos g4] at h1 h2
          simp (config := {maxSteps := 2000000, implicitDefEqProofs := false}) (disch := omega) only [↓reduceIte, go_sem, Int.reduceToNat, Nat.reduceAdd, Nat.reduceLeDiff, Nat.reduceEqDiff, Nat.reduceSub, Nat.reduceMul, reduceCtorEq, mSwap]
          refine callD (C47' v l' junk j (2 * j + 1) _ _ (by omega) (by omega) (by omega) (by omega)) ?_
          simp (config := {maxSteps := 2000000, implicitDefEqProofs := false}) (disch := omega) only [↓reduceIte, go_sem, Int.reduceToNat, Nat.reduceAdd, Nat.reduceLeDiff, Nat.reduceEqDiff, Nat.reduceSub, Nat.reduceMul, reduceCtorEq, pileO]
          exact ⟨(k, swp l' j (2 * j + 1), 2 * j + 1), by simp, ⟨h1, h2, by rw [swp_len]; exact h3, by simp only; omega, by simp only; omega⟩, by simp⟩
        · have g4 : ¬ bef l'[2 * j + 1]! l'[j]! = true := by rw [g4]; exact Bool.noConfusion
          rw [if_neg g4] at h1 h2
          simp (config := {maxSteps := 2000000, implicitDefEqProofs := false}) (disch := omega) only [↓reduceIte, go_sem, Int.reduceToNat, Nat.reduceAdd, Nat.reduceLeDiff, Nat.reduceEqDiff, Nat.reduceSub, Nat.reduceMul, reduceCtorEq]
          rw [← h1, ← h2]
          simp [retO, Int.ofNat_lt]
    · have hm : kid l' (2 * j + 1) n = 2 * j + 1 := if_neg (by omega)
      rw [hm] at h1 h2
      simp (config := {maxSteps := 2000000, implicitDefEqProofs := false}) (disch := omega) only [↓reduceIte, go_sem, Int.reduceToNat, Nat.reduceAdd, Nat.reduceLeDiff, Nat.reduceEqDiff, Nat.reduceSub, Nat.reduceMul, reduceCtorEq, mLess]
      refine callL (C44' l' (2 * j + 1) j _ _ (by omega) (by omega) (by omega) (by omega)) ?_
      simp (config := {maxSteps := 2000000, implicitDefEqProofs := false}) (disch := omega) only [↓reduceIte, go_sem, Int.reduceToNat, Nat.reduceAdd, Nat.reduceLeDiff, Nat.reduceEqDiff, Nat.reduceSub, Nat.reduceMul, reduceCtorEq]
      refine ifL (fun g4 => ?_) (fun g4 => ?_)
      · rw [if_pos g4] at h1 h2
        simp (config := {maxSteps := 2000000, implicitDefEqProofs := false}) (disch := omega) only [↓reduceIte, go_sem, Int.reduceToNat, Nat.reduceAdd, Nat.reduceLeDiff, Nat.reduceEqDiff, Nat.reduceSub, Nat.reduceMul, reduceCtorEq, mSwap]
        refine callD (C47' v l' junk j (2 * j + 1) _ _ (by omega) (by omega) (by omega) (by omega)) ?_
        simp (config := {maxSteps := 2000000, implicitDefEqProofs := false}) (disch := omega) only [↓reduceIte, go_sem, Int.reduceToNat, Nat.reduceAdd, Nat.reduceLeDiff, Nat.reduceEqDiff, Nat.reduceSub, Nat.reduceMul, reduceCtorEq, pileO]
        exact ⟨(k, swp l' j (2 * j + 1), 2 * j + 1), by simp, ⟨h1, h2, by rw [swp_len]; exact h3, by simp only; omega, by simp only; omega⟩, by simp⟩
      · have g4 : ¬ bef l'[2 * j + 1]! l'[j]! = true := by rw [g4]; exact Bool.noConfusion
        rw [if_neg g4] at h1 h2
        simp (config := {maxSteps := 2000000, implicitDefEqProofs := false}) (disch := omega) only [↓reduceIte, go_sem, Int.reduceToNat, Nat.reduceAdd, Nat.reduceLeDiff, Nat.reduceEqDiff, Nat.reduceSub, Nat.reduceMul, reduceCtorEq]
        rw [← h1, ← h2]
        simp [retO, Int.ofNat_lt]
theorem C27 (v : Nat) (l : List It) (junk : List (List AV)) (j : Nat) (a : Int) (ea : a = j) (hj : j < l.length) (hl : l.length < 1000000000000) :
    Ctr Try.prog 27 [.mif 56 (.ref 0 0), .int .i64 a] (pileO v l junk) (retO [] (pileO v (upF j l j) junk)) := by
  subst ea
  apply ctr_b A27_ok rfl (Nat.le_of_ble_eq_true rfl)
  unfold A27
  simp only [pileO, initL, Nat.reduceAdd]
  simp (config := {maxSteps := 2000000, implicitDefEqProofs := false}) (disch := omega) only [↓reduceIte, go_sem, Int.reduceToNat, Nat.reduceAdd, Nat.reduceLeDiff, Nat.reduceEqDiff, Nat.reduceSub, Nat.reduceMul, reduceCtorEq]
  refine loopL (σ := Nat × List It × Nat) (fun s => ⟨[(0, .mif 56 (.ref 0 0)), (1, .int .i64 s.2.2)], [(0, .box [.hs 1 v 0 s.2.1.length, .fn 19 []]), (1, .arr v 2 (s.2.1.map encIt ++ junk))]⟩)
    (fun s => upF s.1 s.2.1 s.2.2 = upF j l j ∧ s.2.1.length = l.length ∧ s.2.2 < l.length ∧ s.2.2 ≤ s.1) (fun s => s.1) (j, l, j) (by simp (config := {maxSteps := 2000000, implicitDefEqProofs := false}) (disch := omega) only [↓reduceIte, go_sem, Int.reduceToNat, Nat.reduceAdd, Nat.reduceLeDiff, Nat.reduceEqDiff, Nat.reduceSub, Nat.reduceMul, reduceCtorEq]) ⟨rfl, rfl, hj, by simp⟩ ?_
  rintro ⟨k, l', i⟩ ⟨h1, h2, h3, h4⟩
  simp only at h1 h2 h3 h4
  rcases Nat.eq_zero_or_pos i with rfl | hi
  · have e0 : (((0 : Nat) : Int) - 1).tdiv 2 = 0 := by decide
    have e1 : upF k l' 0 = l' := by cases k <;> simp [upF]
    simp (config := {maxSteps := 2000000, implicitDefEqProofs := false}) (disch := omega) only [↓reduceIte, go_sem, Int.reduceToNat, Nat.reduceAdd, Nat.reduceLeDiff, Nat.reduceEqDiff, Nat.reduceSub, Nat.reduceMul, reduceCtorEq, e0]
    rw [← h1, e1]
    exact ⟨rfl, rfl⟩
  · have e0 : ((i : Int) - 1).tdiv 2 = (((i - 1) / 2 : Nat) : Int) := by
      rw [show (i : Int) - 1 = ((i - 1 : Nat) : Int) by omega]
      rfl
    obtain ⟨k, rfl⟩ : ∃ k', k = k' + 1 := ⟨k - 1, by omega⟩
    have hne : ((((i - 1) / 2 : Nat) : Int) == (i : Int)) = false := by
      rw [beq_eq_false_iff_ne]
      omega
    have hi0 : i ≠ 0 := by omega
    simp only [upF] at h1
    generalize hq : (i - 1) / 2 = q at *
    have hqi : q < i := by omega
    simp (config := {maxSteps := 2000000, implicitDefEqProofs := false}) (disch := omega) only [↓reduceIte, go_sem, Int.reduceToNat, Nat.reduceAdd, Nat.reduceLeDiff, Nat.reduceEqDiff, Nat.reduceSub, Nat.reduceMul, reduceCtorEq, e0, hne, mLess]
    refine callL (C44' l' i q _ _ (by omega) (by omega) rfl rfl) ?_
    simp (config := {maxSteps := 2000000, implicitDefEqProofs := false}) (disch := omega) only [↓reduceIte, go_sem, Int.reduceToNat, Nat.reduceAdd, Nat.reduceLeDiff, Nat.reduceEqDiff, Nat.reduceSub, Nat.reduceMul, reduceCtorEq]
    refine ifL (fun g4 => ?_) (fun g4 => ?_)
    · rw [if_pos ⟨hi0, g4⟩] at h1
      simp (config := {maxSteps := 2000000, implicitDefEqProofs := false}) (disch := omega) only [↓reduceIte, go_sem, Int.reduceToNat, Nat.reduceAdd, Nat.reduceLeDiff, Nat.reduceEqDiff, Nat.reduceSub, Nat.reduceMul, reduceCtorEq, mSwap]
      refine callD (C47' v l' junk q i _ _ (by omega) (by omega) rfl rfl) ?_
      simp (config := {maxSteps := 2000000, implicitDefEqProofs := false}) (disch := omega) only [↓reduceIte, go_sem, Int.reduceToNat, Nat.reduceAdd, Nat.reduceLeDiff, Nat.reduceEqDiff, Nat.reduceSub, Nat.reduceMul, reduceCtorEq, pileO]
      exact ⟨(k, swp l' q i, q), by simp, ⟨h1, by rw [swp_len]; exact h2, by simp only; omega, by simp only; omega⟩, by simp⟩
    · rw [if_neg (by rw [g4]; exact fun h => Bool.noConfusion h.2)] at h1
      simp (config := {maxSteps := 2000000, implicitDefEqProofs := false}) (disch := omega) only [↓reduceIte, go_sem, Int.reduceToNat, Nat.reduceAdd, Nat.reduceLeDiff, Nat.reduceEqDiff, Nat.reduceSub, Nat.reduceMul, reduceCtorEq]
      rw [← h1]
      exact ⟨rfl, rfl⟩
theorem C26' (v : Nat) (l : List It) (junk : List (List AV)) (i n : Nat) (a b : Int) (ea : a = i) (eb : b = n) (hn : n ≤ l.length) (hi : i ≤ l.length) (hl : l.length < 1000000000000) :
    Ctr Try.prog 26 [.mif 56 (.ref 0 0), .int .i64 a, .int .i64 b] (pileO v l junk) (retO [.bool (decide (downR (n - i) l i n > i))] (pileO v (downF (n - i) l i n) junk)) := by
  subst ea eb; exact C26 v l junk i n hn hi hl
theorem C20 (v : Nat) (l : List It) (junk : List (List AV)) (hl : l.length < 1000000000000) : Ctr Try.prog 20 [.mif 56 (.ref 0 0)] (pileO v l junk) (retO [] (pileO v (heapify l) junk)) := by
  apply ctr_b A20_ok rfl (Nat.le_of_ble_eq_true rfl)
  unfold A20
  simp only [pileO, initL, Nat.reduceAdd]
  simp (config := {maxSteps := 2000000, implicitDefEqProofs := false}) (disch := omega) only [↓reduceIte, go_sem, Int.reduceToNat, Nat.reduceAdd, Nat.reduceLeDiff, Nat.reduceEqDiff, Nat.reduceSub, Nat.reduceMul, reduceCtorEq, mLen]
  refine callL (C25 l) ?_
  have e0 : ((l.length : Int)).tdiv 2 = ((l.length / 2 : Nat) : Int) := rfl
  simp (config := {maxSteps := 2000000, implicitDefEqProofs := false}) (disch := omega) only [↓reduceIte, go_sem, Int.reduceToNat, Nat.reduceAdd, Nat.reduceLeDiff, Nat.reduceEqDiff, Nat.reduceSub, Nat.reduceMul, reduceCtorEq, e0]
  refine loopL (σ := Nat × List It) (fun s => ⟨[(0, .mif 56 (.ref 0 0)), (2, .int .i64 l.length), (3, .int .i64 ((s.1 : Int) - 1))], [(0, .box [.hs 1 v 0 s.2.length, .fn 19 []]), (1, .arr v 2 (s.2.map encIt ++ junk))]⟩)
    (fun s => initF s.1 s.2 = heapify l ∧ s.2.length = l.length ∧ s.1 ≤ l.length) (fun s => s.1) (l.length / 2, l) (by simp (config := {maxSteps := 2000000, implicitDefEqProofs := false}) (disch := omega) only [↓reduceIte, go_sem, Int.reduceToNat, Nat.reduceAdd, Nat.reduceLeDiff, Nat.reduceEqDiff, Nat.reduceSub, Nat.reduceMul, reduceCtorEq]) ⟨rfl, rfl, by simp only; omega⟩ ?_
  rintro ⟨k, l'⟩ ⟨h1, h2, h3⟩
  simp only at h1 h2 h3
  rcases Nat.eq_zero_or_pos k with rfl | hk
  · simp (config := {maxSteps := 2000000, implicitDefEqProofs := false}) (disch := omega) only [↓reduceIte, go_sem, Int.reduceToNat, Nat.reduceAdd, Nat.reduceLeDiff, Nat.reduceEqDiff, Nat.reduceSub, Nat.reduceMul, reduceCtorEq]
    rw [← h1]
    exact ⟨rfl, rfl⟩
  · obtain ⟨k, rfl⟩ : ∃ k', k = k' + 1 := ⟨k - 1, by omega⟩
    simp (config := {maxSteps := 2000000, implicitDefEqProofs := false}) (disch := omega) only [↓reduceIte, go_sem, Int.reduceToNat, Nat.reduceAdd, Nat.reduceLeDiff, Nat.reduceEqDiff, Nat.reduceSub, Nat.reduceMul, reduceCtorEq]
    refine callD (C26' v l' junk k l'.length _ _ (by omega) (by omega) (Nat.le_refl _) (by omega) (by omega)) ?_
    simp (config := {maxSteps := 2000000, implicitDefEqProofs := false}) (disch := omega) only [↓reduceIte, go_sem, Int.reduceToNat, Nat.reduceAdd, Nat.reduceLeDiff, Nat.reduceEqDiff, Nat.reduceSub, Nat.reduceMul, reduceCtorEq, pileO]
    exact ⟨(k, downF (l'.length - k) l' k l'.length), by simp, ⟨h1, by rw [downF_len]; exact h2, by simp only; omega⟩, by simp⟩
end Go.Proofs.Ytmmgdilhbkklpaa.X
