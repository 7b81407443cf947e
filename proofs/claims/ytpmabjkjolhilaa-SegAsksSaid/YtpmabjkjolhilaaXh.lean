/- Part of a proof: what functions of the program do. -/
import Derived.Test.YtpmabjkjolhilaaXc
import Derived.Sort.LotA
import Derived.Sort.LotB
import Derived.Sort.LotC
import Derived.Sort.LotD2
namespace Go.Proofs.Ytpmabjkjolhilaa.X
open Go Go.AM Go.Proofs
attribute [local go_sem ↓] w_skip w_lbl w_ops w_draw w_pre w_post w_alt w_seq w_cond w_block w_join w_loop w_exit w_ret w_scope w_rfunc l_nil l_cons th_n th_e th_r bk_n bk_r bk_e t_nil t_it t_call i_nil i_one i_grp s_nil s_cons c_call e_mv e_nil e_frz o_mov o_bin o_eq o_un o_conv o_len o_slen o_idx o_aix o_fad o_load o_store o_boxp o_boxo o_boxm o_alloc o_alloca o_nilarr o_build o_bslp o_bslo o_slc o_sslc o_slc3 o_sidx o_mkfn o_ext o_pick o_callf o_callb o_appd o_clear o_mxn o_field o_nilc o_make o_buildm o_boxg o_mkif o_tass o_eqs o_callo k_int k_str k_bool k_grb k_grt k_some k_none k_arr k_lens k_lenf k_lenh k_idxs k_idxf k_idxh k_ld k_loadp k_loadr k_loade k_storer k_storee k_oin k_ois k_slcs k_slcf k_slch k_slc3s k_slc3f k_slc3h k_app2 k_apps k_appf k_apph k_cals k_cald k_cali k_cnb k_cna k_esn k_esc k_efn k_efc k_esh b_add b_sub b_mul b_quo b_rem b_and b_or b_xor b_andNot b_eql b_neq b_lss b_leq b_gtr b_geq b_shl b_shr b_seq b_sne b_slt b_sad q_bool q_str q_nil q_nilf u_not u_neg u_xor f_ret f_nor v_r v_c v_reg v_ob v_set v_put v_so v_sn v_pn v_pc g_nil d_nil p_nil m_mv m_fr z_nil z_cons z_an z_ac g_cons d_cons p_cons y_mov y_bin y_eq y_un y_conv y_len y_slen y_idx y_aix y_fad y_load y_store y_boxp y_boxo y_boxm y_alloc y_alloca y_nilarr y_build y_bslp y_bslo y_slc y_sslc y_slc3 y_sidx y_mkfn y_ext y_pick y_callf y_callb y_appd y_clear y_mxn y_field y_nilc y_make y_buildm y_boxg y_mkif y_tass y_eqs y_callo nb_if
attribute [local go_sem] VL_mk VL2_mk If_t If_f If_not If_and If_or If_dt If_df If_et If_ef If_ne Ck_t Ck_h Opt_s ld_a ld_c renL ren keepR renA idxM invL getObs mapOb renOb allNone putAll fzR fzO fz fzL fzOb frzOk upFrom mapR resOne resA cellsOf oneA oneAL isP isPL okSt kRows kParts fillA setAt bor bor0 bor1 bor2 borC borI key0 key1 key2 keysA fillM cellsM cellM unif ptrA ifOk kPartsM getObsM allNoneM zipU scal0 scalar eqC evNil evNilF List.map_cons List.map_nil List.cons_append List.nil_append List.append_nil List.drop_zero List.drop_succ_cons List.drop_nil List.take_succ_cons List.take_zero List.take_nil List.length_cons List.length_nil List.length_map List.getElem?_map Option.map_some Option.map_none Int.toNat_natCast Int.toNat_zero Int.toNat_one Int.natCast_nonneg List.flatMap_cons List.flatMap_nil List.all_cons List.all_nil Bool.and_true Bool.true_and Bool.and_false Bool.false_and Bool.not_true Bool.not_false beq_self_eq_true nb_self all_nil List.forall_mem_cons tk_map tk_app bs_self bs_dec bq_t bq_f Bool.not_not decide_true decide_false Bool.not_not and_self and_true true_and eq_self List.reverse_cons List.reverse_nil List.getElem?_cons_zero List.getElem?_cons_succ cond_true cond_false List.set_cons_zero List.set_cons_succ Nat.zero_add Nat.add_zero if_true if_false ite_true ite_false implies_true wrap64 wrap8
set_option linter.unusedVariables false
set_option linter.unusedSimpArgs false
set_option maxRecDepth 10000
set_option maxHeartbeats 8000000
theorem C73 (v : Nat) (d : Array Seg) (a b L : Nat) (x y : Int) (ex : x = a) (ey : y = b) (eL : L = d.size) (hab : a < b) (hb : b ≤ d.size) (hl : d.size < 1000000) :
    Ctr Try.prog 73 [.hs 0 v 0 L, .int .i64 x, .int .i64 y, cF] (rowD v d) (retO [.bool (Go.Sort.partialInsertionSort ltS d a b).2] (rowD v (Go.Sort.partialInsertionSort ltS d a b).1)) := by
  subst ex ey eL
  apply ctr_b A73_ok rfl (Nat.le_of_ble_eq_true rfl)
  unfold A73
  simp only [rowD, initL, Nat.reduceAdd]
  simp (config := {maxSteps := 2000000, implicitDefEqProofs := false}) (disch := omega) only [↓reduceIte, go_sem, Int.reduceToNat, Nat.reduceAdd, Nat.reduceLeDiff, Nat.reduceEqDiff, Nat.reduceSub, Nat.reduceMul, reduceCtorEq]
  refine loopL (σ := (Nat × Nat) × Array Seg) (fun s => ⟨[(0, .hs 0 v 0 d.size), (1, .int .i64 a), (2, .int .i64 b), (3, cF), (9, .int .i64 s.1.2), (10, .int .i64 s.1.1)], [(0, .arr v 6 (s.2.toList.map encS))]⟩)
    (fun s => s.1.1 ≤ 5 ∧ a + 1 ≤ s.1.2 ∧ s.1.2 ≤ b ∧ s.2.size = d.size ∧ Go.Sort.partialIns ltS a b (5 - s.1.1) s.1.2 s.2 = Go.Sort.partialInsertionSort ltS d a b) (fun s => 5 - s.1.1) ((0, a + 1), d) (by simp (config := {maxSteps := 2000000, implicitDefEqProofs := false}) (disch := omega) only [↓reduceIte, go_sem, Int.reduceToNat, Nat.reduceAdd, Nat.reduceLeDiff, Nat.reduceEqDiff, Nat.reduceSub, Nat.reduceMul, reduceCtorEq]; rfl) ⟨by simp, by simp, by simp only; omega, rfl, rfl⟩ ?_
  rintro ⟨⟨st, i⟩, d1⟩ ⟨h1, h2, h3, h4, h5⟩
  simp only at h1 h2 h3 h4 h5
  simp (config := {maxSteps := 2000000, implicitDefEqProofs := false}) (disch := omega) only [↓reduceIte, go_sem, Int.reduceToNat, Nat.reduceAdd, Nat.reduceLeDiff, Nat.reduceEqDiff, Nat.reduceSub, Nat.reduceMul, reduceCtorEq]
  refine ifD (fun g => ?_) (fun g => ?_)
  · have h5' : Go.Sort.partialIns ltS a b (5 - st) i d1 = if Go.Sort.scanSorted ltS d1 b i = b then (d1, true) else if b - a < 50 then (d1, false) else
        Go.Sort.partialIns ltS a b (5 - (st + 1)) (Go.Sort.scanSorted ltS d1 b i)
          (if b - Go.Sort.scanSorted ltS d1 b i ≥ 2 then Go.Sort.shiftUp ltS b (Go.Sort.scanSorted ltS d1 b i + 1) (if Go.Sort.scanSorted ltS d1 b i - a ≥ 2 then Go.Sort.shiftDown ltS (Go.Sort.scanSorted ltS d1 b i - 1) (Go.Sort.swp d1 (Go.Sort.scanSorted ltS d1 b i) (Go.Sort.scanSorted ltS d1 b i - 1)) else Go.Sort.swp d1 (Go.Sort.scanSorted ltS d1 b i) (Go.Sort.scanSorted ltS d1 b i - 1))
           else (if Go.Sort.scanSorted ltS d1 b i - a ≥ 2 then Go.Sort.shiftDown ltS (Go.Sort.scanSorted ltS d1 b i - 1) (Go.Sort.swp d1 (Go.Sort.scanSorted ltS d1 b i) (Go.Sort.scanSorted ltS d1 b i - 1)) else Go.Sort.swp d1 (Go.Sort.scanSorted ltS d1 b i) (Go.Sort.scanSorted ltS d1 b i - 1))) := by
      obtain ⟨s', hs'⟩ : ∃ s', 5 - st = s' + 1 := ⟨4 - st, by omega⟩
      rw [hs', show 5 - (st + 1) = s' by omega]
      rfl
    rw [h5'] at h5
    clear h5'
    simp (config := {maxSteps := 2000000, implicitDefEqProofs := false}) (disch := omega) only [↓reduceIte, go_sem, Int.reduceToNat, Nat.reduceAdd, Nat.reduceLeDiff, Nat.reduceEqDiff, Nat.reduceSub, Nat.reduceMul, reduceCtorEq]
    refine joinL (σ := Nat × Array Seg) (fun s => ⟨[(0, .hs 0 v 0 d.size), (1, .int .i64 a), (2, .int .i64 b), (3, cF), (9, .int .i64 s.1), (10, .int .i64 st)], [(0, .arr v 6 (s.2.toList.map encS))]⟩)
      (fun s => a + 1 ≤ s.1 ∧ s.1 ≤ b ∧ s.2.size = d.size ∧ Go.Sort.partialIns ltS a b (5 - (st + 1)) s.1 s.2 = Go.Sort.partialInsertionSort ltS d a b) ?_ ?_
    · simp (config := {maxSteps := 2000000, implicitDefEqProofs := false}) (disch := omega) only [↓reduceIte, go_sem, Int.reduceToNat, Nat.reduceAdd, Nat.reduceLeDiff, Nat.reduceEqDiff, Nat.reduceSub, Nat.reduceMul, reduceCtorEq]
      refine joinL (σ := Nat) (fun s => ⟨[(0, .hs 0 v 0 d.size), (1, .int .i64 a), (2, .int .i64 b), (3, cF), (9, .int .i64 s), (10, .int .i64 st)], [(0, .arr v 6 (d1.toList.map encS))]⟩)
        (fun s => i ≤ s ∧ s ≤ b ∧ Go.Sort.scanSorted ltS d1 b i = s) ?_ ?_
      · simp (config := {maxSteps := 2000000, implicitDefEqProofs := false}) (disch := omega) only [↓reduceIte, go_sem, Int.reduceToNat, Nat.reduceAdd, Nat.reduceLeDiff, Nat.reduceEqDiff, Nat.reduceSub, Nat.reduceMul, reduceCtorEq]
        refine loopL (σ := Nat) (fun s => ⟨[(0, .hs 0 v 0 d.size), (1, .int .i64 a), (2, .int .i64 b), (3, cF), (9, .int .i64 s), (10, .int .i64 st)], [(0, .arr v 6 (d1.toList.map encS))]⟩)
          (fun s => i ≤ s ∧ s ≤ b ∧ Go.Sort.scanSorted ltS d1 b i = Go.Sort.scanSorted ltS d1 b s) (fun s => b - s) i (by simp (config := {maxSteps := 2000000, implicitDefEqProofs := false}) (disch := omega) only [↓reduceIte, go_sem, Int.reduceToNat, Nat.reduceAdd, Nat.reduceLeDiff, Nat.reduceEqDiff, Nat.reduceSub, Nat.reduceMul, reduceCtorEq]) ⟨Nat.le_refl _, h3, rfl⟩ ?_
        rintro s ⟨k1, k2, k3⟩
        simp (config := {maxSteps := 2000000, implicitDefEqProofs := false}) (disch := omega) only [↓reduceIte, go_sem, Int.reduceToNat, Nat.reduceAdd, Nat.reduceLeDiff, Nat.reduceEqDiff, Nat.reduceSub, Nat.reduceMul, reduceCtorEq]
        refine ifD (fun g2 => ?_) (fun g2 => ?_)
        · have t1 : ((s : Int) - 1).toNat = s - 1 := by omega
          have b0 := rdD (d := d1) (show s < d1.size by omega)
          have b1 := rdD (d := d1) (show s - 1 < d1.size by omega)
          simp only [encS] at b0 b1
          simp (config := {maxSteps := 2000000, implicitDefEqProofs := false}) (disch := omega) only [↓reduceIte, go_sem, Int.reduceToNat, Nat.reduceAdd, Nat.reduceLeDiff, Nat.reduceEqDiff, Nat.reduceSub, Nat.reduceMul, reduceCtorEq, t1, b0, b1]
          refine callL (C38 d1[s]! d1[s - 1]!) ?_
          simp (config := {maxSteps := 2000000, implicitDefEqProofs := false}) (disch := omega) only [↓reduceIte, go_sem, Int.reduceToNat, Nat.reduceAdd, Nat.reduceLeDiff, Nat.reduceEqDiff, Nat.reduceSub, Nat.reduceMul, reduceCtorEq]
          refine accL (by kernel_rfl) ?_
          simp (config := {maxSteps := 2000000, implicitDefEqProofs := false}) (disch := omega) only [↓reduceIte, go_sem, Int.reduceToNat, Nat.reduceAdd, Nat.reduceLeDiff, Nat.reduceEqDiff, Nat.reduceSub, Nat.reduceMul, reduceCtorEq]
          refine ifD (fun g3 => ?_) (fun g3 => ?_)
          · simp (config := {maxSteps := 2000000, implicitDefEqProofs := false}) (disch := omega) only [↓reduceIte, go_sem, Int.reduceToNat, Nat.reduceAdd, Nat.reduceLeDiff, Nat.reduceEqDiff, Nat.reduceSub, Nat.reduceMul, reduceCtorEq]
            refine ⟨s, by simp, k1, k2, ?_⟩
            rw [k3, Go.Sort.scanSorted, if_neg (by simp [ltS, g3])]
          · simp (config := {maxSteps := 2000000, implicitDefEqProofs := false}) (disch := omega) only [↓reduceIte, go_sem, Int.reduceToNat, Nat.reduceAdd, Nat.reduceLeDiff, Nat.reduceEqDiff, Nat.reduceSub, Nat.reduceMul, reduceCtorEq]
            refine ⟨s + 1, by simp, ⟨by omega, by omega, ?_⟩, by omega⟩
            rw [k3, Go.Sort.scanSorted, if_pos (by simp only [ltS, g3, decide_false, Bool.not_false, Bool.and_true, decide_eq_true_eq]; omega)]
        · simp (config := {maxSteps := 2000000, implicitDefEqProofs := false}) (disch := omega) only [↓reduceIte, go_sem, Int.reduceToNat, Nat.reduceAdd, Nat.reduceLeDiff, Nat.reduceEqDiff, Nat.reduceSub, Nat.reduceMul, reduceCtorEq]
          refine accL (by kernel_rfl) ?_
          simp (config := {maxSteps := 2000000, implicitDefEqProofs := false}) (disch := omega) only [↓reduceIte, go_sem, Int.reduceToNat, Nat.reduceAdd, Nat.reduceLeDiff, Nat.reduceEqDiff, Nat.reduceSub, Nat.reduceMul, reduceCtorEq]
          refine ⟨s, by simp, k1, k2, ?_⟩
          rw [k3, Go.Sort.scanSorted, if_neg (by simp only [Bool.and_eq_true, decide_eq_true_eq]; omega)]
      · rintro s ⟨k1, k2, k3⟩
        rw [k3] at h5
        clear k3
        simp (config := {maxSteps := 2000000, implicitDefEqProofs := false}) (disch := omega) only [↓reduceIte, go_sem, Int.reduceToNat, Nat.reduceAdd, Nat.reduceLeDiff, Nat.reduceEqDiff, Nat.reduceSub, Nat.reduceMul, reduceCtorEq]
        refine ifE (fun g2 => ?_) (fun g2 => ?_)
        · rw [if_pos (by omega)] at h5
          simp (config := {maxSteps := 2000000, implicitDefEqProofs := false}) (disch := omega) only [↓reduceIte, go_sem, Int.reduceToNat, Nat.reduceAdd, Nat.reduceLeDiff, Nat.reduceEqDiff, Nat.reduceSub, Nat.reduceMul, reduceCtorEq]
          rw [← h5]
          exact ⟨rfl, rfl⟩
        · rw [if_neg (by omega)] at h5
          simp (config := {maxSteps := 2000000, implicitDefEqProofs := false}) (disch := omega) only [↓reduceIte, go_sem, Int.reduceToNat, Nat.reduceAdd, Nat.reduceLeDiff, Nat.reduceEqDiff, Nat.reduceSub, Nat.reduceMul, reduceCtorEq]
          refine ifD (fun g3 => ?_) (fun g3 => ?_)
          · rw [if_pos (by omega)] at h5
            simp (config := {maxSteps := 2000000, implicitDefEqProofs := false}) (disch := omega) only [↓reduceIte, go_sem, Int.reduceToNat, Nat.reduceAdd, Nat.reduceLeDiff, Nat.reduceEqDiff, Nat.reduceSub, Nat.reduceMul, reduceCtorEq]
            rw [← h5]
            exact ⟨rfl, rfl⟩
          · rw [if_neg (by omega)] at h5
            have t1 : ((s : Int) - 1).toNat = s - 1 := by omega
            have b0 := rdD (d := d1) (show s < d1.size by omega)
            have b1 := rdD (d := d1) (show s - 1 < d1.size by omega)
            have hw := wrD (d := d1) (i := s) (j := s - 1) (by omega) (by omega)
            have e1 := hw.1
            have e2 := hw.2
            simp only [encS] at b0 b1 e1 e2
            simp (config := {maxSteps := 2000000, implicitDefEqProofs := false}) (disch := omega) only [↓reduceIte, go_sem, Int.reduceToNat, Nat.reduceAdd, Nat.reduceLeDiff, Nat.reduceEqDiff, Nat.reduceSub, Nat.reduceMul, reduceCtorEq, t1, b0, b1, e1, e2]
            refine accL (by kernel_rfl) ?_
            simp (config := {maxSteps := 2000000, implicitDefEqProofs := false}) (disch := omega) only [↓reduceIte, go_sem, Int.reduceToNat, Nat.reduceAdd, Nat.reduceLeDiff, Nat.reduceEqDiff, Nat.reduceSub, Nat.reduceMul, reduceCtorEq, t1, b0, b1, e1, e2]
            have hsz : (Go.Sort.swp d1 s (s - 1)).size = d.size := by rw [Go.Sort.size_swp]; exact h4
            clear b0 b1 hw e1 e2
            generalize Go.Sort.swp d1 s (s - 1) = d2 at h5 hsz
            refine joinL (σ := Array Seg) (fun q => ⟨[(0, .hs 0 v 0 d.size), (1, .int .i64 a), (2, .int .i64 b), (3, cF), (9, .int .i64 s), (10, .int .i64 st)], [(0, .arr v 6 (q.toList.map encS))]⟩)
              (fun q => q.size = d.size ∧ q = if s - a ≥ 2 then Go.Sort.shiftDown ltS (s - 1) d2 else d2) ?_ ?_
            · simp (config := {maxSteps := 2000000, implicitDefEqProofs := false}) (disch := omega) only [↓reduceIte, go_sem, Int.reduceToNat, Nat.reduceAdd, Nat.reduceLeDiff, Nat.reduceEqDiff, Nat.reduceSub, Nat.reduceMul, reduceCtorEq]
              refine ifD (fun g4 => ?_) (fun g4 => ?_)
              · rw [if_pos (by omega)]
                simp (config := {maxSteps := 2000000, implicitDefEqProofs := false}) (disch := omega) only [↓reduceIte, go_sem, Int.reduceToNat, Nat.reduceAdd, Nat.reduceLeDiff, Nat.reduceEqDiff, Nat.reduceSub, Nat.reduceMul, reduceCtorEq]
                refine loopL (σ := Nat × Array Seg) (fun q => ⟨[(0, .hs 0 v 0 d.size), (1, .int .i64 a), (2, .int .i64 b), (3, cF), (9, .int .i64 s), (10, .int .i64 st), (11, .int .i64 q.1)], [(0, .arr v 6 (q.2.toList.map encS))]⟩)
                  (fun q => q.1 < s ∧ q.2.size = d.size ∧ Go.Sort.shiftDown ltS q.1 q.2 = Go.Sort.shiftDown ltS (s - 1) d2) (fun q => q.1) (s - 1, d2) ?_ ⟨by simp only; omega, hsz, rfl⟩ ?_
                · simp (config := {maxSteps := 2000000, implicitDefEqProofs := false}) (disch := omega) only [↓reduceIte, go_sem, Int.reduceToNat, Nat.reduceAdd, Nat.reduceLeDiff, Nat.reduceEqDiff, Nat.reduceSub, Nat.reduceMul, reduceCtorEq]
                  have : ((s - 1 : Nat) : Int) = (s : Int) - 1 := by omega
                  simp only [this]
                rintro ⟨j, d3⟩ ⟨q1, q2, q3⟩
                simp only at q1 q2 q3
                simp (config := {maxSteps := 2000000, implicitDefEqProofs := false}) (disch := omega) only [↓reduceIte, go_sem, Int.reduceToNat, Nat.reduceAdd, Nat.reduceLeDiff, Nat.reduceEqDiff, Nat.reduceSub, Nat.reduceMul, reduceCtorEq]
                refine ifD (fun g5 => ?_) (fun g5 => ?_)
                · have t2 : ((j : Int) - 1).toNat = j - 1 := by omega
                  have c0 := rdD (d := d3) (show j < d3.size by omega)
                  have c1 := rdD (d := d3) (show j - 1 < d3.size by omega)
                  have hw := wrD (d := d3) (i := j) (j := j - 1) (by omega) (by omega)
                  have e1 := hw.1
                  have e2 := hw.2
                  simp only [encS] at c0 c1 e1 e2
                  have hun : Go.Sort.shiftDown ltS j d3 = if ltS d3[j]! d3[j - 1]! = false then d3 else Go.Sort.shiftDown ltS (j - 1) (Go.Sort.swp d3 j (j - 1)) := by
                    have : j = (j - 1) + 1 := by omega
                    rw [this, Go.Sort.shiftDown, Nat.add_sub_cancel]
                    simp only [Bool.not_eq_true']
                  rw [hun] at q3
                  simp (config := {maxSteps := 2000000, implicitDefEqProofs := false}) (disch := omega) only [↓reduceIte, go_sem, Int.reduceToNat, Nat.reduceAdd, Nat.reduceLeDiff, Nat.reduceEqDiff, Nat.reduceSub, Nat.reduceMul, reduceCtorEq, t2, c0, c1]
                  refine callL (C38 d3[j]! d3[j - 1]!) ?_
                  simp (config := {maxSteps := 2000000, implicitDefEqProofs := false}) (disch := omega) only [↓reduceIte, go_sem, Int.reduceToNat, Nat.reduceAdd, Nat.reduceLeDiff, Nat.reduceEqDiff, Nat.reduceSub, Nat.reduceMul, reduceCtorEq]
                  refine accL (by kernel_rfl) ?_
                  simp (config := {maxSteps := 2000000, implicitDefEqProofs := false}) (disch := omega) only [↓reduceIte, go_sem, Int.reduceToNat, Nat.reduceAdd, Nat.reduceLeDiff, Nat.reduceEqDiff, Nat.reduceSub, Nat.reduceMul, reduceCtorEq]
                  refine ifD (fun g6 => ?_) (fun g6 => ?_)
                  · simp (config := {maxSteps := 2000000, implicitDefEqProofs := false}) (disch := omega) only [↓reduceIte, go_sem, Int.reduceToNat, Nat.reduceAdd, Nat.reduceLeDiff, Nat.reduceEqDiff, Nat.reduceSub, Nat.reduceMul, reduceCtorEq, t2, c0, c1, e1, e2]
                    refine accL (by kernel_rfl) ?_
                    simp (config := {maxSteps := 2000000, implicitDefEqProofs := false}) (disch := omega) only [↓reduceIte, go_sem, Int.reduceToNat, Nat.reduceAdd, Nat.reduceLeDiff, Nat.reduceEqDiff, Nat.reduceSub, Nat.reduceMul, reduceCtorEq, t2, c0, c1, e1, e2]
                    refine ⟨(j - 1, Go.Sort.swp d3 j (j - 1)), ?_, ⟨by simp only; omega, by rw [Go.Sort.size_swp]; exact q2, ?_⟩, by simp only; omega⟩
                    · have : ((j - 1 : Nat) : Int) = (j : Int) - 1 := by omega
                      simp only [this]
                    · rw [if_neg (by simp [ltS, g6])] at q3
                      exact q3
                  · simp (config := {maxSteps := 2000000, implicitDefEqProofs := false}) (disch := omega) only [↓reduceIte, go_sem, Int.reduceToNat, Nat.reduceAdd, Nat.reduceLeDiff, Nat.reduceEqDiff, Nat.reduceSub, Nat.reduceMul, reduceCtorEq]
                    refine ⟨d3, rfl, q2, ?_⟩
                    rw [if_pos (by simp [ltS, g6])] at q3
                    exact q3
                · have hj : j = 0 := by omega
                  subst hj
                  simp (config := {maxSteps := 2000000, implicitDefEqProofs := false}) (disch := omega) only [↓reduceIte, go_sem, Int.reduceToNat, Nat.reduceAdd, Nat.reduceLeDiff, Nat.reduceEqDiff, Nat.reduceSub, Nat.reduceMul, reduceCtorEq]
                  exact ⟨d3, rfl, q2, q3⟩
              · rw [if_neg (by omega)]
                simp (config := {maxSteps := 2000000, implicitDefEqProofs := false}) (disch := omega) only [↓reduceIte, go_sem, Int.reduceToNat, Nat.reduceAdd, Nat.reduceLeDiff, Nat.reduceEqDiff, Nat.reduceSub, Nat.reduceMul, reduceCtorEq]
                exact ⟨d2, rfl, hsz, rfl⟩
            · rintro q ⟨q1, q2⟩
              rw [← q2] at h5
              clear q2 hsz
              simp (config := {maxSteps := 2000000, implicitDefEqProofs := false}) (disch := omega) only [↓reduceIte, go_sem, Int.reduceToNat, Nat.reduceAdd, Nat.reduceLeDiff, Nat.reduceEqDiff, Nat.reduceSub, Nat.reduceMul, reduceCtorEq]
              refine ifD (fun g4 => ?_) (fun g4 => ?_)
              · rw [if_pos (by omega)] at h5
                simp (config := {maxSteps := 2000000, implicitDefEqProofs := false}) (disch := omega) only [↓reduceIte, go_sem, Int.reduceToNat, Nat.reduceAdd, Nat.reduceLeDiff, Nat.reduceEqDiff, Nat.reduceSub, Nat.reduceMul, reduceCtorEq]
                refine loopL (σ := Nat × Array Seg) (fun r => ⟨[(0, .hs 0 v 0 d.size), (1, .int .i64 a), (2, .int .i64 b), (3, cF), (9, .int .i64 s), (10, .int .i64 st), (12, .int .i64 r.1)], [(0, .arr v 6 (r.2.toList.map encS))]⟩)
                  (fun r => s + 1 ≤ r.1 ∧ r.1 ≤ b ∧ r.2.size = d.size ∧ Go.Sort.shiftUp ltS b r.1 r.2 = Go.Sort.shiftUp ltS b (s + 1) q) (fun r => b - r.1) (s + 1, q) (by simp (config := {maxSteps := 2000000, implicitDefEqProofs := false}) (disch := omega) only [↓reduceIte, go_sem, Int.reduceToNat, Nat.reduceAdd, Nat.reduceLeDiff, Nat.reduceEqDiff, Nat.reduceSub, Nat.reduceMul, reduceCtorEq]; rfl) ⟨Nat.le_refl _, by simp only; omega, q1, rfl⟩ ?_
                rintro ⟨j, d3⟩ ⟨r1, r2, r3, r4⟩
                simp only at r1 r2 r3 r4
                simp (config := {maxSteps := 2000000, implicitDefEqProofs := false}) (disch := omega) only [↓reduceIte, go_sem, Int.reduceToNat, Nat.reduceAdd, Nat.reduceLeDiff, Nat.reduceEqDiff, Nat.reduceSub, Nat.reduceMul, reduceCtorEq]
                refine ifD (fun g5 => ?_) (fun g5 => ?_)
                · have t2 : ((j : Int) - 1).toNat = j - 1 := by omega
                  have c0 := rdD (d := d3) (show j < d3.size by omega)
                  have c1 := rdD (d := d3) (show j - 1 < d3.size by omega)
                  have hw := wrD (d := d3) (i := j) (j := j - 1) (by omega) (by omega)
                  have e1 := hw.1
                  have e2 := hw.2
                  simp only [encS] at c0 c1 e1 e2
                  rw [Go.Sort.shiftUp, if_pos (by omega)] at r4
                  simp (config := {maxSteps := 2000000, implicitDefEqProofs := false}) (disch := omega) only [↓reduceIte, go_sem, Int.reduceToNat, Nat.reduceAdd, Nat.reduceLeDiff, Nat.reduceEqDiff, Nat.reduceSub, Nat.reduceMul, reduceCtorEq, t2, c0, c1]
                  refine callL (C38 d3[j]! d3[j - 1]!) ?_
                  simp (config := {maxSteps := 2000000, implicitDefEqProofs := false}) (disch := omega) only [↓reduceIte, go_sem, Int.reduceToNat, Nat.reduceAdd, Nat.reduceLeDiff, Nat.reduceEqDiff, Nat.reduceSub, Nat.reduceMul, reduceCtorEq]
                  refine accL (by kernel_rfl) ?_
                  simp (config := {maxSteps := 2000000, implicitDefEqProofs := false}) (disch := omega) only [↓reduceIte, go_sem, Int.reduceToNat, Nat.reduceAdd, Nat.reduceLeDiff, Nat.reduceEqDiff, Nat.reduceSub, Nat.reduceMul, reduceCtorEq]
                  refine ifD (fun g6 => ?_) (fun g6 => ?_)
                  · simp (config := {maxSteps := 2000000, implicitDefEqProofs := false}) (disch := omega) only [↓reduceIte, go_sem, Int.reduceToNat, Nat.reduceAdd, Nat.reduceLeDiff, Nat.reduceEqDiff, Nat.reduceSub, Nat.reduceMul, reduceCtorEq, t2, c0, c1, e1, e2]
                    refine accL (by kernel_rfl) ?_
                    simp (config := {maxSteps := 2000000, implicitDefEqProofs := false}) (disch := omega) only [↓reduceIte, go_sem, Int.reduceToNat, Nat.reduceAdd, Nat.reduceLeDiff, Nat.reduceEqDiff, Nat.reduceSub, Nat.reduceMul, reduceCtorEq, t2, c0, c1, e1, e2]
                    refine ⟨(j + 1, Go.Sort.swp d3 j (j - 1)), by simp, ⟨by simp only; omega, by simp only; omega, by rw [Go.Sort.size_swp]; exact r3, ?_⟩, by simp only; omega⟩
                    rw [if_neg (by simp [ltS, g6])] at r4
                    exact r4
                  · simp (config := {maxSteps := 2000000, implicitDefEqProofs := false}) (disch := omega) only [↓reduceIte, go_sem, Int.reduceToNat, Nat.reduceAdd, Nat.reduceLeDiff, Nat.reduceEqDiff, Nat.reduceSub, Nat.reduceMul, reduceCtorEq]
                    refine ⟨(s, d3), rfl, by simp only; omega, k2, r3, ?_⟩
                    rw [if_pos (by simp [ltS, g6])] at r4
                    rw [r4]
                    exact h5
                · simp (config := {maxSteps := 2000000, implicitDefEqProofs := false}) (disch := omega) only [↓reduceIte, go_sem, Int.reduceToNat, Nat.reduceAdd, Nat.reduceLeDiff, Nat.reduceEqDiff, Nat.reduceSub, Nat.reduceMul, reduceCtorEq]
                  rw [Go.Sort.shiftUp, if_neg (by omega)] at r4
                  exact ⟨(s, d3), rfl, by simp only; omega, k2, r3, by rw [r4]; exact h5⟩
              · rw [if_neg (by omega)] at h5
                simp (config := {maxSteps := 2000000, implicitDefEqProofs := false}) (disch := omega) only [↓reduceIte, go_sem, Int.reduceToNat, Nat.reduceAdd, Nat.reduceLeDiff, Nat.reduceEqDiff, Nat.reduceSub, Nat.reduceMul, reduceCtorEq]
                exact ⟨(s, q), rfl, by simp only; omega, k2, q1, h5⟩
    · rintro ⟨s, d5⟩ ⟨k1, k2, k3, k4⟩
      simp only at k1 k2 k3 k4
      simp (config := {maxSteps := 2000000, implicitDefEqProofs := false}) (disch := omega) only [↓reduceIte, go_sem, Int.reduceToNat, Nat.reduceAdd, Nat.reduceLeDiff, Nat.reduceEqDiff, Nat.reduceSub, Nat.reduceMul, reduceCtorEq]
      exact ⟨((st + 1, s), d5), by simp, ⟨by simp only; omega, k1, k2, k3, k4⟩, by simp only; omega⟩
  · have h5 : Go.Sort.partialIns ltS a b (5 - st) i d1 = Go.Sort.partialInsertionSort ltS d a b := h5
    rw [show 5 - st = 0 by omega] at h5
    simp (config := {maxSteps := 2000000, implicitDefEqProofs := false}) (disch := omega) only [↓reduceIte, go_sem, Int.reduceToNat, Nat.reduceAdd, Nat.reduceLeDiff, Nat.reduceEqDiff, Nat.reduceSub, Nat.reduceMul, reduceCtorEq]
    rw [← h5]
    exact ⟨rfl, rfl⟩

end Go.Proofs.Ytpmabjkjolhilaa.X
namespace Go.Proofs.Ytpmabjkjolhilaa.X
open Go Go.AM Go.Proofs
attribute [local go_sem ↓] w_skip w_lbl w_ops w_draw w_pre w_post w_alt w_seq w_cond w_block w_join w_loop w_exit w_ret w_scope w_rfunc l_nil l_cons th_n th_e th_r bk_n bk_r bk_e t_nil t_it t_call i_nil i_one i_grp s_nil s_cons c_call e_mv e_nil e_frz o_mov o_bin o_eq o_un o_conv o_len o_slen o_idx o_aix o_fad o_load o_store o_boxp o_boxo o_boxm o_alloc o_alloca o_nilarr o_build o_bslp o_bslo o_slc o_sslc o_slc3 o_sidx o_mkfn o_ext o_pick o_callf o_callb o_appd o_clear o_mxn o_field o_nilc o_make o_buildm o_boxg o_mkif o_tass o_eqs o_callo k_int k_str k_bool k_grb k_grt k_some k_none k_arr k_lens k_lenf k_lenh k_idxs k_idxf k_idxh k_ld k_loadp k_loadr k_loade k_storer k_storee k_oin k_ois k_slcs k_slcf k_slch k_slc3s k_slc3f k_slc3h k_app2 k_apps k_appf k_apph k_cals k_cald k_cali k_cnb k_cna k_esn k_esc k_efn k_efc k_esh b_add b_sub b_mul b_quo b_rem b_and b_or b_xor b_andNot b_eql b_neq b_lss b_leq b_gtr b_geq b_shl b_shr b_seq b_sne b_slt b_sad q_bool q_str q_nil q_nilf u_not u_neg u_xor f_ret f_nor v_r v_c v_reg v_ob v_set v_put v_so v_sn v_pn v_pc g_nil d_nil p_nil m_mv m_fr z_nil z_cons z_an z_ac g_cons d_cons p_cons y_mov y_bin y_eq y_un y_conv y_len y_slen y_idx y_aix y_fad y_load y_store y_boxp y_boxo y_boxm y_alloc y_alloca y_nilarr y_build y_bslp y_bslo y_slc y_sslc y_slc3 y_sidx y_mkfn y_ext y_pick y_callf y_callb y_appd y_clear y_mxn y_field y_nilc y_make y_buildm y_boxg y_mkif y_tass y_eqs y_callo nb_if
attribute [local go_sem] VL_mk VL2_mk If_t If_f If_not If_and If_or If_dt If_df If_et If_ef If_ne Ck_t Ck_h Opt_s ld_a ld_c renL ren keepR renA idxM invL getObs mapOb renOb allNone putAll fzR fzO fz fzL fzOb frzOk upFrom mapR resOne resA cellsOf oneA oneAL isP isPL okSt kRows kParts fillA setAt bor bor0 bor1 bor2 borC borI key0 key1 key2 keysA fillM cellsM cellM unif ptrA ifOk kPartsM getObsM allNoneM zipU scal0 scalar eqC evNil evNilF List.map_cons List.map_nil List.cons_append List.nil_append List.append_nil List.drop_zero List.drop_succ_cons List.drop_nil List.take_succ_cons List.take_zero List.take_nil List.length_cons List.length_nil List.length_map List.getElem?_map Option.map_some Option.map_none Int.toNat_natCast Int.toNat_zero Int.toNat_one Int.natCast_nonneg List.flatMap_cons List.flatMap_nil List.all_cons List.all_nil Bool.and_true Bool.true_and Bool.and_false Bool.false_and Bool.not_true Bool.not_false beq_self_eq_true nb_self all_nil List.forall_mem_cons tk_map tk_app bs_self bs_dec bq_t bq_f Bool.not_not decide_true decide_false Bool.not_not and_self and_true true_and eq_self List.reverse_cons List.reverse_nil List.getElem?_cons_zero List.getElem?_cons_succ cond_true cond_false List.set_cons_zero List.set_cons_succ Nat.zero_add Nat.add_zero if_true if_false ite_true ite_false implies_true wrap64 wrap8
set_option linter.unusedVariables false
set_option linter.unusedSimpArgs false
set_option maxRecDepth 10000
set_option maxHeartbeats 8000000
theorem scanDown_step {p : Seg → Bool} {d : Array Seg} {i j : Nat} (hi : 0 < i) : Go.Sort.scanDown p d i j = if i ≤ j ∧ p d[j]! = true then Go.Sort.scanDown p d i (j - 1) else j := by
  cases j with
  | zero => rw [if_neg (by omega)]; rfl
  | succ j =>
    rw [Go.Sort.scanDown, Nat.add_sub_cancel]
    by_cases h : i ≤ j + 1 ∧ p d[j + 1]! = true
    · rw [if_pos (by simpa using h), if_pos h]
    · rw [if_neg (by simpa using h), if_neg h]
theorem C74 (v : Nat) (d : Array Seg) (a b p L : Nat) (x y z : Int) (ex : x = a) (ey : y = b) (ez : z = p) (eL : L = d.size) (hab : a < b) (hb : b ≤ d.size) (hp : p < d.size) (hl : d.size < 1000000) :
    Ctr Try.prog 74 [.hs 0 v 0 L, .int .i64 x, .int .i64 y, .int .i64 z, cF] (rowD v d) (retO [.int .i64 (Go.Sort.partitionEqual ltS d a b p).1] (rowD v (Go.Sort.partitionEqual ltS d a b p).2)) := by
  subst ex ey ez eL
  have b0 := rdD (d := d) (show a < d.size by omega)
  have b1 := rdD (d := d) hp
  have hw := wrD (d := d) (i := a) (j := p) (by omega) hp
  have e1 := hw.1
  have e2 := hw.2
  simp only [encS] at b0 b1 e1 e2
  apply ctr_b A74_ok rfl (Nat.le_of_ble_eq_true rfl)
  unfold A74
  simp only [rowD, initL, Nat.reduceAdd]
  simp (config := {maxSteps := 2000000, implicitDefEqProofs := false}) (disch := omega) only [↓reduceIte, go_sem, Int.reduceToNat, Nat.reduceAdd, Nat.reduceLeDiff, Nat.reduceEqDiff, Nat.reduceSub, Nat.reduceMul, reduceCtorEq, b0, b1, e1, e2]
  refine accL (by kernel_rfl) ?_
  simp (config := {maxSteps := 2000000, implicitDefEqProofs := false}) (disch := omega) only [↓reduceIte, go_sem, Int.reduceToNat, Nat.reduceAdd, Nat.reduceLeDiff, Nat.reduceEqDiff, Nat.reduceSub, Nat.reduceMul, reduceCtorEq, b0, b1, e1, e2]
  have hsz : (Go.Sort.swp d a p).size = d.size := Go.Sort.size_swp _ _ _
  refine loopL (σ := (Nat × Nat) × Array Seg) (fun s => ⟨[(0, .hs 0 v 0 d.size), (1, .int .i64 a), (4, cF), (11, .int .i64 s.1.1), (12, .int .i64 s.1.2)], [(0, .arr v 6 (s.2.toList.map encS))]⟩)
    (fun s => a < s.1.1 ∧ s.1.1 ≤ b + 1 ∧ s.1.2 < b ∧ a ≤ s.1.2 ∧ s.2.size = d.size ∧ Go.Sort.partEqLoop ltS a s.1.1 s.1.2 s.2 = Go.Sort.partitionEqual ltS d a b p) (fun s => s.1.2 + 2 - s.1.1) ((a + 1, b - 1), Go.Sort.swp d a p) ?_ ⟨by simp only; omega, by simp only; omega, by simp only; omega, by simp only; omega, hsz, rfl⟩ ?_
  · simp (config := {maxSteps := 2000000, implicitDefEqProofs := false}) (disch := omega) only [↓reduceIte, go_sem, Int.reduceToNat, Nat.reduceAdd, Nat.reduceLeDiff, Nat.reduceEqDiff, Nat.reduceSub, Nat.reduceMul, reduceCtorEq]
    have : ((b - 1 : Nat) : Int) = (b : Int) - 1 := by omega
    simp [this]
  clear b0 b1 hw e1 e2 hsz
  rintro ⟨⟨i, j⟩, d1⟩ ⟨h1, h2, h3, h4, h5, h6⟩
  simp only at h1 h2 h3 h4 h5 h6
  have ra := rdD (d := d1) (show a < d1.size by omega)
  simp only [encS] at ra
  rw [Go.Sort.partEqLoop_eq] at h6
  simp (config := {maxSteps := 2000000, implicitDefEqProofs := false}) (disch := omega) only [↓reduceIte, go_sem, Int.reduceToNat, Nat.reduceAdd, Nat.reduceLeDiff, Nat.reduceEqDiff, Nat.reduceSub, Nat.reduceMul, reduceCtorEq]
  refine joinL (σ := Nat) (fun s => ⟨[(0, .hs 0 v 0 d.size), (1, .int .i64 a), (4, cF), (11, .int .i64 s), (12, .int .i64 j)], [(0, .arr v 6 (d1.toList.map encS))]⟩)
    (fun s => i ≤ s ∧ s ≤ b + 1 ∧ Go.Sort.scanUp (fun x => !ltS d1[a]! x) d1 j i = s) ?_ ?_
  · simp (config := {maxSteps := 2000000, implicitDefEqProofs := false}) (disch := omega) only [↓reduceIte, go_sem, Int.reduceToNat, Nat.reduceAdd, Nat.reduceLeDiff, Nat.reduceEqDiff, Nat.reduceSub, Nat.reduceMul, reduceCtorEq]
    refine loopL (σ := Nat) (fun s => ⟨[(0, .hs 0 v 0 d.size), (1, .int .i64 a), (4, cF), (11, .int .i64 s), (12, .int .i64 j)], [(0, .arr v 6 (d1.toList.map encS))]⟩)
      (fun s => i ≤ s ∧ s ≤ b + 1 ∧ Go.Sort.scanUp (fun x => !ltS d1[a]! x) d1 j i = Go.Sort.scanUp (fun x => !ltS d1[a]! x) d1 j s) (fun s => b + 1 - s) i (by simp (config := {maxSteps := 2000000, implicitDefEqProofs := false}) (disch := omega) only [↓reduceIte, go_sem, Int.reduceToNat, Nat.reduceAdd, Nat.reduceLeDiff, Nat.reduceEqDiff, Nat.reduceSub, Nat.reduceMul, reduceCtorEq]) ⟨Nat.le_refl _, h2, rfl⟩ ?_
    rintro s ⟨k1, k2, k3⟩
    rw [Go.Sort.scanUp.eq_def _ _ _ s] at k3
    simp (config := {maxSteps := 2000000, implicitDefEqProofs := false}) (disch := omega) only [↓reduceIte, go_sem, Int.reduceToNat, Nat.reduceAdd, Nat.reduceLeDiff, Nat.reduceEqDiff, Nat.reduceSub, Nat.reduceMul, reduceCtorEq]
    refine ifD (fun g => ?_) (fun g => ?_)
    · have rs := rdD (d := d1) (show s < d1.size by omega)
      simp only [encS] at rs
      simp (config := {maxSteps := 2000000, implicitDefEqProofs := false}) (disch := omega) only [↓reduceIte, go_sem, Int.reduceToNat, Nat.reduceAdd, Nat.reduceLeDiff, Nat.reduceEqDiff, Nat.reduceSub, Nat.reduceMul, reduceCtorEq, ra, rs]
      refine callL (C38 d1[a]! d1[s]!) ?_
      simp (config := {maxSteps := 2000000, implicitDefEqProofs := false}) (disch := omega) only [↓reduceIte, go_sem, Int.reduceToNat, Nat.reduceAdd, Nat.reduceLeDiff, Nat.reduceEqDiff, Nat.reduceSub, Nat.reduceMul, reduceCtorEq]
      refine accL (by kernel_rfl) ?_
      simp (config := {maxSteps := 2000000, implicitDefEqProofs := false}) (disch := omega) only [↓reduceIte, go_sem, Int.reduceToNat, Nat.reduceAdd, Nat.reduceLeDiff, Nat.reduceEqDiff, Nat.reduceSub, Nat.reduceMul, reduceCtorEq]
      refine ifD (fun g3 => ?_) (fun g3 => ?_)
      · simp (config := {maxSteps := 2000000, implicitDefEqProofs := false}) (disch := omega) only [↓reduceIte, go_sem, Int.reduceToNat, Nat.reduceAdd, Nat.reduceLeDiff, Nat.reduceEqDiff, Nat.reduceSub, Nat.reduceMul, reduceCtorEq]
        rw [if_neg (by simp [ltS, g3])] at k3
        exact ⟨s, by simp, k1, k2, k3⟩
      · simp (config := {maxSteps := 2000000, implicitDefEqProofs := false}) (disch := omega) only [↓reduceIte, go_sem, Int.reduceToNat, Nat.reduceAdd, Nat.reduceLeDiff, Nat.reduceEqDiff, Nat.reduceSub, Nat.reduceMul, reduceCtorEq]
        rw [if_pos (by simp only [ltS, g3, decide_false, Bool.not_false, Bool.and_true, decide_eq_true_eq]; omega)] at k3
        exact ⟨s + 1, by simp, ⟨by omega, by omega, k3⟩, by omega⟩
    · simp (config := {maxSteps := 2000000, implicitDefEqProofs := false}) (disch := omega) only [↓reduceIte, go_sem, Int.reduceToNat, Nat.reduceAdd, Nat.reduceLeDiff, Nat.reduceEqDiff, Nat.reduceSub, Nat.reduceMul, reduceCtorEq]
      refine accL (by kernel_rfl) ?_
      simp (config := {maxSteps := 2000000, implicitDefEqProofs := false}) (disch := omega) only [↓reduceIte, go_sem, Int.reduceToNat, Nat.reduceAdd, Nat.reduceLeDiff, Nat.reduceEqDiff, Nat.reduceSub, Nat.reduceMul, reduceCtorEq]
      rw [if_neg (by simp only [Bool.and_eq_true, decide_eq_true_eq]; omega)] at k3
      exact ⟨s, by simp, k1, k2, k3⟩
  rintro s ⟨k1, k2, k3⟩
  rw [k3] at h6
  clear k3
  simp (config := {maxSteps := 2000000, implicitDefEqProofs := false}) (disch := omega) only [↓reduceIte, go_sem, Int.reduceToNat, Nat.reduceAdd, Nat.reduceLeDiff, Nat.reduceEqDiff, Nat.reduceSub, Nat.reduceMul, reduceCtorEq]
  refine joinL (σ := Nat) (fun t => ⟨[(0, .hs 0 v 0 d.size), (1, .int .i64 a), (4, cF), (11, .int .i64 s), (12, .int .i64 t)], [(0, .arr v 6 (d1.toList.map encS))]⟩)
    (fun t => a ≤ t ∧ t ≤ j ∧ Go.Sort.scanDown (fun x => ltS d1[a]! x) d1 s j = t) ?_ ?_
  · simp (config := {maxSteps := 2000000, implicitDefEqProofs := false}) (disch := omega) only [↓reduceIte, go_sem, Int.reduceToNat, Nat.reduceAdd, Nat.reduceLeDiff, Nat.reduceEqDiff, Nat.reduceSub, Nat.reduceMul, reduceCtorEq]
    refine loopL (σ := Nat) (fun t => ⟨[(0, .hs 0 v 0 d.size), (1, .int .i64 a), (4, cF), (11, .int .i64 s), (12, .int .i64 t)], [(0, .arr v 6 (d1.toList.map encS))]⟩)
      (fun t => a ≤ t ∧ t ≤ j ∧ Go.Sort.scanDown (fun x => ltS d1[a]! x) d1 s j = Go.Sort.scanDown (fun x => ltS d1[a]! x) d1 s t) (fun t => t) j (by simp (config := {maxSteps := 2000000, implicitDefEqProofs := false}) (disch := omega) only [↓reduceIte, go_sem, Int.reduceToNat, Nat.reduceAdd, Nat.reduceLeDiff, Nat.reduceEqDiff, Nat.reduceSub, Nat.reduceMul, reduceCtorEq]) ⟨h4, Nat.le_refl _, rfl⟩ ?_
    rintro t ⟨q1, q2, q3⟩
    rw [scanDown_step (j := t) (by omega)] at q3
    simp (config := {maxSteps := 2000000, implicitDefEqProofs := false}) (disch := omega) only [↓reduceIte, go_sem, Int.reduceToNat, Nat.reduceAdd, Nat.reduceLeDiff, Nat.reduceEqDiff, Nat.reduceSub, Nat.reduceMul, reduceCtorEq]
    refine ifD (fun g => ?_) (fun g => ?_)
    · have rs := rdD (d := d1) (show t < d1.size by omega)
      simp only [encS] at rs
      simp (config := {maxSteps := 2000000, implicitDefEqProofs := false}) (disch := omega) only [↓reduceIte, go_sem, Int.reduceToNat, Nat.reduceAdd, Nat.reduceLeDiff, Nat.reduceEqDiff, Nat.reduceSub, Nat.reduceMul, reduceCtorEq, ra, rs]
      refine callL (C38 d1[a]! d1[t]!) ?_
      simp (config := {maxSteps := 2000000, implicitDefEqProofs := false}) (disch := omega) only [↓reduceIte, go_sem, Int.reduceToNat, Nat.reduceAdd, Nat.reduceLeDiff, Nat.reduceEqDiff, Nat.reduceSub, Nat.reduceMul, reduceCtorEq]
      refine accL (by kernel_rfl) ?_
      simp (config := {maxSteps := 2000000, implicitDefEqProofs := false}) (disch := omega) only [↓reduceIte, go_sem, Int.reduceToNat, Nat.reduceAdd, Nat.reduceLeDiff, Nat.reduceEqDiff, Nat.reduceSub, Nat.reduceMul, reduceCtorEq]
      refine ifD (fun g3 => ?_) (fun g3 => ?_)
      · simp (config := {maxSteps := 2000000, implicitDefEqProofs := false}) (disch := omega) only [↓reduceIte, go_sem, Int.reduceToNat, Nat.reduceAdd, Nat.reduceLeDiff, Nat.reduceEqDiff, Nat.reduceSub, Nat.reduceMul, reduceCtorEq]
        rw [if_pos ⟨by omega, by simp [ltS, g3]⟩] at q3
        refine ⟨t - 1, ?_, ⟨by omega, by omega, q3⟩, by omega⟩
        have : ((t - 1 : Nat) : Int) = (t : Int) - 1 := by omega
        simp only [this]
      · simp (config := {maxSteps := 2000000, implicitDefEqProofs := false}) (disch := omega) only [↓reduceIte, go_sem, Int.reduceToNat, Nat.reduceAdd, Nat.reduceLeDiff, Nat.reduceEqDiff, Nat.reduceSub, Nat.reduceMul, reduceCtorEq]
        rw [if_neg (by simp [ltS, g3])] at q3
        exact ⟨t, by simp, q1, q2, q3⟩
    · simp (config := {maxSteps := 2000000, implicitDefEqProofs := false}) (disch := omega) only [↓reduceIte, go_sem, Int.reduceToNat, Nat.reduceAdd, Nat.reduceLeDiff, Nat.reduceEqDiff, Nat.reduceSub, Nat.reduceMul, reduceCtorEq]
      refine accL (by kernel_rfl) ?_
      simp (config := {maxSteps := 2000000, implicitDefEqProofs := false}) (disch := omega) only [↓reduceIte, go_sem, Int.reduceToNat, Nat.reduceAdd, Nat.reduceLeDiff, Nat.reduceEqDiff, Nat.reduceSub, Nat.reduceMul, reduceCtorEq]
      rw [if_neg (by omega)] at q3
      exact ⟨t, by simp, q1, q2, q3⟩
  rintro t ⟨q1, q2, q3⟩
  rw [q3] at h6
  clear q3
  simp (config := {maxSteps := 2000000, implicitDefEqProofs := false}) (disch := omega) only [↓reduceIte, go_sem, Int.reduceToNat, Nat.reduceAdd, Nat.reduceLeDiff, Nat.reduceEqDiff, Nat.reduceSub, Nat.reduceMul, reduceCtorEq]
  refine ifD (fun g => ?_) (fun g => ?_)
  · rw [if_pos (by omega)] at h6
    simp (config := {maxSteps := 2000000, implicitDefEqProofs := false}) (disch := omega) only [↓reduceIte, go_sem, Int.reduceToNat, Nat.reduceAdd, Nat.reduceLeDiff, Nat.reduceEqDiff, Nat.reduceSub, Nat.reduceMul, reduceCtorEq]
    rw [← h6]
    exact ⟨rfl, rfl⟩
  · rw [if_neg (by omega)] at h6
    have c0 := rdD (d := d1) (show s < d1.size by omega)
    have c1 := rdD (d := d1) (show t < d1.size by omega)
    have hw := wrD (d := d1) (i := s) (j := t) (by omega) (by omega)
    have e1 := hw.1
    have e2 := hw.2
    simp only [encS] at c0 c1 e1 e2
    simp (config := {maxSteps := 2000000, implicitDefEqProofs := false}) (disch := omega) only [↓reduceIte, go_sem, Int.reduceToNat, Nat.reduceAdd, Nat.reduceLeDiff, Nat.reduceEqDiff, Nat.reduceSub, Nat.reduceMul, reduceCtorEq, c0, c1, e1, e2]
    refine accL (by kernel_rfl) ?_
    simp (config := {maxSteps := 2000000, implicitDefEqProofs := false}) (disch := omega) only [↓reduceIte, go_sem, Int.reduceToNat, Nat.reduceAdd, Nat.reduceLeDiff, Nat.reduceEqDiff, Nat.reduceSub, Nat.reduceMul, reduceCtorEq, c0, c1, e1, e2]
    refine ⟨((s + 1, t - 1), Go.Sort.swp d1 s t), ?_, ⟨by simp only; omega, by simp only; omega, by simp only; omega, by simp only; omega, by rw [Go.Sort.size_swp]; exact h5, h6⟩, by simp only; omega⟩
    have : ((t - 1 : Nat) : Int) = (t : Int) - 1 := by omega
    simp [this]

end Go.Proofs.Ytpmabjkjolhilaa.X
namespace Go.Proofs.Ytpmabjkjolhilaa.X
open Go Go.AM Go.Proofs
attribute [local go_sem ↓] w_skip w_lbl w_ops w_draw w_pre w_post w_alt w_seq w_cond w_block w_join w_loop w_exit w_ret w_scope w_rfunc l_nil l_cons th_n th_e th_r bk_n bk_r bk_e t_nil t_it t_call i_nil i_one i_grp s_nil s_cons c_call e_mv e_nil e_frz o_mov o_bin o_eq o_un o_conv o_len o_slen o_idx o_aix o_fad o_load o_store o_boxp o_boxo o_boxm o_alloc o_alloca o_nilarr o_build o_bslp o_bslo o_slc o_sslc o_slc3 o_sidx o_mkfn o_ext o_pick o_callf o_callb o_appd o_clear o_mxn o_field o_nilc o_make o_buildm o_boxg o_mkif o_tass o_eqs o_callo k_int k_str k_bool k_grb k_grt k_some k_none k_arr k_lens k_lenf k_lenh k_idxs k_idxf k_idxh k_ld k_loadp k_loadr k_loade k_storer k_storee k_oin k_ois k_slcs k_slcf k_slch k_slc3s k_slc3f k_slc3h k_app2 k_apps k_appf k_apph k_cals k_cald k_cali k_cnb k_cna k_esn k_esc k_efn k_efc k_esh b_add b_sub b_mul b_quo b_rem b_and b_or b_xor b_andNot b_eql b_neq b_lss b_leq b_gtr b_geq b_shl b_shr b_seq b_sne b_slt b_sad q_bool q_str q_nil q_nilf u_not u_neg u_xor f_ret f_nor v_r v_c v_reg v_ob v_set v_put v_so v_sn v_pn v_pc g_nil d_nil p_nil m_mv m_fr z_nil z_cons z_an z_ac g_cons d_cons p_cons y_mov y_bin y_eq y_un y_conv y_len y_slen y_idx y_aix y_fad y_load y_store y_boxp y_boxo y_boxm y_alloc y_alloca y_nilarr y_build y_bslp y_bslo y_slc y_sslc y_slc3 y_sidx y_mkfn y_ext y_pick y_callf y_callb y_appd y_clear y_mxn y_field y_nilc y_make y_buildm y_boxg y_mkif y_tass y_eqs y_callo nb_if
attribute [local go_sem] VL_mk VL2_mk If_t If_f If_not If_and If_or If_dt If_df If_et If_ef If_ne Ck_t Ck_h Opt_s ld_a ld_c renL ren keepR renA idxM invL getObs mapOb renOb allNone putAll fzR fzO fz fzL fzOb frzOk upFrom mapR resOne resA cellsOf oneA oneAL isP isPL okSt kRows kParts fillA setAt bor bor0 bor1 bor2 borC borI key0 key1 key2 keysA fillM cellsM cellM unif ptrA ifOk kPartsM getObsM allNoneM zipU scal0 scalar eqC evNil evNilF List.map_cons List.map_nil List.cons_append List.nil_append List.append_nil List.drop_zero List.drop_succ_cons List.drop_nil List.take_succ_cons List.take_zero List.take_nil List.length_cons List.length_nil List.length_map List.getElem?_map Option.map_some Option.map_none Int.toNat_natCast Int.toNat_zero Int.toNat_one Int.natCast_nonneg List.flatMap_cons List.flatMap_nil List.all_cons List.all_nil Bool.and_true Bool.true_and Bool.and_false Bool.false_and Bool.not_true Bool.not_false beq_self_eq_true nb_self all_nil List.forall_mem_cons tk_map tk_app bs_self bs_dec bq_t bq_f Bool.not_not decide_true decide_false Bool.not_not and_self and_true true_and eq_self List.reverse_cons List.reverse_nil List.getElem?_cons_zero List.getElem?_cons_succ cond_true cond_false List.set_cons_zero List.set_cons_succ Nat.zero_add Nat.add_zero if_true if_false ite_true ite_false implies_true wrap64 wrap8
set_option linter.unusedVariables false
set_option linter.unusedSimpArgs false
set_option maxRecDepth 10000
set_option maxHeartbeats 8000000
theorem partition_unf (d : Array Seg) (a b p : Nat) : Go.Sort.partition ltS d a b p = if Go.Sort.scanUp (fun x => ltS x (Go.Sort.swp d a p)[a]!) (Go.Sort.swp d a p) (b - 1) (a + 1) > Go.Sort.scanDown (fun x => !ltS x (Go.Sort.swp d a p)[a]!) (Go.Sort.swp d a p) (Go.Sort.scanUp (fun x => ltS x (Go.Sort.swp d a p)[a]!) (Go.Sort.swp d a p) (b - 1) (a + 1)) (b - 1)
    then (Go.Sort.scanDown (fun x => !ltS x (Go.Sort.swp d a p)[a]!) (Go.Sort.swp d a p) (Go.Sort.scanUp (fun x => ltS x (Go.Sort.swp d a p)[a]!) (Go.Sort.swp d a p) (b - 1) (a + 1)) (b - 1), true, Go.Sort.swp (Go.Sort.swp d a p) (Go.Sort.scanDown (fun x => !ltS x (Go.Sort.swp d a p)[a]!) (Go.Sort.swp d a p) (Go.Sort.scanUp (fun x => ltS x (Go.Sort.swp d a p)[a]!) (Go.Sort.swp d a p) (b - 1) (a + 1)) (b - 1)) a)
    else ((Go.Sort.partLoop ltS a (Go.Sort.scanUp (fun x => ltS x (Go.Sort.swp d a p)[a]!) (Go.Sort.swp d a p) (b - 1) (a + 1) + 1) (Go.Sort.scanDown (fun x => !ltS x (Go.Sort.swp d a p)[a]!) (Go.Sort.swp d a p) (Go.Sort.scanUp (fun x => ltS x (Go.Sort.swp d a p)[a]!) (Go.Sort.swp d a p) (b - 1) (a + 1)) (b - 1) - 1) (Go.Sort.swp (Go.Sort.swp d a p) (Go.Sort.scanUp (fun x => ltS x (Go.Sort.swp d a p)[a]!) (Go.Sort.swp d a p) (b - 1) (a + 1)) (Go.Sort.scanDown (fun x => !ltS x (Go.Sort.swp d a p)[a]!) (Go.Sort.swp d a p) (Go.Sort.scanUp (fun x => ltS x (Go.Sort.swp d a p)[a]!) (Go.Sort.swp d a p) (b - 1) (a + 1)) (b - 1)))).1, false,
      Go.Sort.swp (Go.Sort.partLoop ltS a (Go.Sort.scanUp (fun x => ltS x (Go.Sort.swp d a p)[a]!) (Go.Sort.swp d a p) (b - 1) (a + 1) + 1) (Go.Sort.scanDown (fun x => !ltS x (Go.Sort.swp d a p)[a]!) (Go.Sort.swp d a p) (Go.Sort.scanUp (fun x => ltS x (Go.Sort.swp d a p)[a]!) (Go.Sort.swp d a p) (b - 1) (a + 1)) (b - 1) - 1) (Go.Sort.swp (Go.Sort.swp d a p) (Go.Sort.scanUp (fun x => ltS x (Go.Sort.swp d a p)[a]!) (Go.Sort.swp d a p) (b - 1) (a + 1)) (Go.Sort.scanDown (fun x => !ltS x (Go.Sort.swp d a p)[a]!) (Go.Sort.swp d a p) (Go.Sort.scanUp (fun x => ltS x (Go.Sort.swp d a p)[a]!) (Go.Sort.swp d a p) (b - 1) (a + 1)) (b - 1)))).2
       (Go.Sort.partLoop ltS a (Go.Sort.scanUp (fun x => ltS x (Go.Sort.swp d a p)[a]!) (Go.Sort.swp d a p) (b - 1) (a + 1) + 1) (Go.Sort.scanDown (fun x => !ltS x (Go.Sort.swp d a p)[a]!) (Go.Sort.swp d a p) (Go.Sort.scanUp (fun x => ltS x (Go.Sort.swp d a p)[a]!) (Go.Sort.swp d a p) (b - 1) (a + 1)) (b - 1) - 1) (Go.Sort.swp (Go.Sort.swp d a p) (Go.Sort.scanUp (fun x => ltS x (Go.Sort.swp d a p)[a]!) (Go.Sort.swp d a p) (b - 1) (a + 1)) (Go.Sort.scanDown (fun x => !ltS x (Go.Sort.swp d a p)[a]!) (Go.Sort.swp d a p) (Go.Sort.scanUp (fun x => ltS x (Go.Sort.swp d a p)[a]!) (Go.Sort.swp d a p) (b - 1) (a + 1)) (b - 1)))).1 a) := rfl
theorem C75 (v : Nat) (d : Array Seg) (a b p L : Nat) (x y z : Int) (ex : x = a) (ey : y = b) (ez : z = p) (eL : L = d.size) (hab : a < b) (hb : b ≤ d.size) (hp : p < d.size) (hl : d.size < 1000000) :
    Ctr Try.prog 75 [.hs 0 v 0 L, .int .i64 x, .int .i64 y, .int .i64 z, cF] (rowD v d) (retO [.int .i64 (Go.Sort.partition ltS d a b p).1, .bool (Go.Sort.partition ltS d a b p).2.1] (rowD v (Go.Sort.partition ltS d a b p).2.2)) := by
  subst ex ey ez eL
  have b0 := rdD (d := d) (show a < d.size by omega)
  have b1 := rdD (d := d) hp
  have hw := wrD (d := d) (i := a) (j := p) (by omega) hp
  have e1 := hw.1
  have e2 := hw.2
  simp only [encS] at b0 b1 e1 e2
  apply ctr_b A75_ok rfl (Nat.le_of_ble_eq_true rfl)
  unfold A75
  simp only [rowD, initL, Nat.reduceAdd]
  simp (config := {maxSteps := 2000000, implicitDefEqProofs := false}) (disch := omega) only [↓reduceIte, go_sem, Int.reduceToNat, Nat.reduceAdd, Nat.reduceLeDiff, Nat.reduceEqDiff, Nat.reduceSub, Nat.reduceMul, reduceCtorEq, b0, b1, e1, e2]
  refine accL (by kernel_rfl) ?_
  simp (config := {maxSteps := 2000000, implicitDefEqProofs := false}) (disch := omega) only [↓reduceIte, go_sem, Int.reduceToNat, Nat.reduceAdd, Nat.reduceLeDiff, Nat.reduceEqDiff, Nat.reduceSub, Nat.reduceMul, reduceCtorEq, b0, b1, e1, e2]
  have h5 : (Go.Sort.swp d a p).size = d.size := Go.Sort.size_swp _ _ _
  have h6 := (partition_unf d a b p).symm
  clear b0 b1 hw e1 e2
  generalize Go.Sort.partition ltS d a b p = RES at h6 ⊢
  generalize Go.Sort.swp d a p = d1 at h5 h6 ⊢
  have ra := rdD (d := d1) (show a < d1.size by omega)
  simp only [encS] at ra
  refine joinL (σ := Nat) (fun s => ⟨[(0, .hs 0 v 0 d.size), (1, .int .i64 a), (4, cF), (12, .int .i64 s), (13, .int .i64 ((b : Int) - 1))], [(0, .arr v 6 (d1.toList.map encS))]⟩)
    (fun s => a + 1 ≤ s ∧ s ≤ b + 1 ∧ Go.Sort.scanUp (fun x => ltS x d1[a]!) d1 (b - 1) (a + 1) = s) ?_ ?_
  · simp (config := {maxSteps := 2000000, implicitDefEqProofs := false}) (disch := omega) only [↓reduceIte, go_sem, Int.reduceToNat, Nat.reduceAdd, Nat.reduceLeDiff, Nat.reduceEqDiff, Nat.reduceSub, Nat.reduceMul, reduceCtorEq]
    refine loopL (σ := Nat) (fun s => ⟨[(0, .hs 0 v 0 d.size), (1, .int .i64 a), (4, cF), (12, .int .i64 s), (13, .int .i64 ((b : Int) - 1))], [(0, .arr v 6 (d1.toList.map encS))]⟩)
      (fun s => a + 1 ≤ s ∧ s ≤ b + 1 ∧ Go.Sort.scanUp (fun x => ltS x d1[a]!) d1 (b - 1) (a + 1) = Go.Sort.scanUp (fun x => ltS x d1[a]!) d1 (b - 1) s) (fun s => b + 1 - s) (a + 1) (by simp (config := {maxSteps := 2000000, implicitDefEqProofs := false}) (disch := omega) only [↓reduceIte, go_sem, Int.reduceToNat, Nat.reduceAdd, Nat.reduceLeDiff, Nat.reduceEqDiff, Nat.reduceSub, Nat.reduceMul, reduceCtorEq]; rfl) ⟨Nat.le_refl _, by omega, rfl⟩ ?_
    rintro s ⟨k1, k2, k3⟩
    rw [Go.Sort.scanUp.eq_def _ _ _ s] at k3
    simp (config := {maxSteps := 2000000, implicitDefEqProofs := false}) (disch := omega) only [↓reduceIte, go_sem, Int.reduceToNat, Nat.reduceAdd, Nat.reduceLeDiff, Nat.reduceEqDiff, Nat.reduceSub, Nat.reduceMul, reduceCtorEq]
    refine ifD (fun g => ?_) (fun g => ?_)
    · have rs := rdD (d := d1) (show s < d1.size by omega)
      simp only [encS] at rs
      simp (config := {maxSteps := 2000000, implicitDefEqProofs := false}) (disch := omega) only [↓reduceIte, go_sem, Int.reduceToNat, Nat.reduceAdd, Nat.reduceLeDiff, Nat.reduceEqDiff, Nat.reduceSub, Nat.reduceMul, reduceCtorEq, ra, rs]
      refine callL (C38 d1[s]! d1[a]!) ?_
      simp (config := {maxSteps := 2000000, implicitDefEqProofs := false}) (disch := omega) only [↓reduceIte, go_sem, Int.reduceToNat, Nat.reduceAdd, Nat.reduceLeDiff, Nat.reduceEqDiff, Nat.reduceSub, Nat.reduceMul, reduceCtorEq]
      refine accL (by kernel_rfl) ?_
      simp (config := {maxSteps := 2000000, implicitDefEqProofs := false}) (disch := omega) only [↓reduceIte, go_sem, Int.reduceToNat, Nat.reduceAdd, Nat.reduceLeDiff, Nat.reduceEqDiff, Nat.reduceSub, Nat.reduceMul, reduceCtorEq]
      refine ifD (fun g3 => ?_) (fun g3 => ?_)
      · simp (config := {maxSteps := 2000000, implicitDefEqProofs := false}) (disch := omega) only [↓reduceIte, go_sem, Int.reduceToNat, Nat.reduceAdd, Nat.reduceLeDiff, Nat.reduceEqDiff, Nat.reduceSub, Nat.reduceMul, reduceCtorEq]
        rw [if_pos (by simp only [ltS, g3, decide_true, Bool.and_true, decide_eq_true_eq]; omega)] at k3
        exact ⟨s + 1, by simp, ⟨by omega, by omega, k3⟩, by omega⟩
      · simp (config := {maxSteps := 2000000, implicitDefEqProofs := false}) (disch := omega) only [↓reduceIte, go_sem, Int.reduceToNat, Nat.reduceAdd, Nat.reduceLeDiff, Nat.reduceEqDiff, Nat.reduceSub, Nat.reduceMul, reduceCtorEq]
        rw [if_neg (by simp [ltS, g3])] at k3
        exact ⟨s, by simp, k1, k2, k3⟩
    · simp (config := {maxSteps := 2000000, implicitDefEqProofs := false}) (disch := omega) only [↓reduceIte, go_sem, Int.reduceToNat, Nat.reduceAdd, Nat.reduceLeDiff, Nat.reduceEqDiff, Nat.reduceSub, Nat.reduceMul, reduceCtorEq]
      refine accL (by kernel_rfl) ?_
      simp (config := {maxSteps := 2000000, implicitDefEqProofs := false}) (disch := omega) only [↓reduceIte, go_sem, Int.reduceToNat, Nat.reduceAdd, Nat.reduceLeDiff, Nat.reduceEqDiff, Nat.reduceSub, Nat.reduceMul, reduceCtorEq]
      rw [if_neg (by simp only [Bool.and_eq_true, decide_eq_true_eq]; omega)] at k3
      exact ⟨s, by simp, k1, k2, k3⟩
  rintro s ⟨k1, k2, k3⟩
  rw [k3] at h6
  clear k3
  simp (config := {maxSteps := 2000000, implicitDefEqProofs := false}) (disch := omega) only [↓reduceIte, go_sem, Int.reduceToNat, Nat.reduceAdd, Nat.reduceLeDiff, Nat.reduceEqDiff, Nat.reduceSub, Nat.reduceMul, reduceCtorEq]
  refine joinL (σ := Nat) (fun t => ⟨[(0, .hs 0 v 0 d.size), (1, .int .i64 a), (4, cF), (12, .int .i64 s), (13, .int .i64 t)], [(0, .arr v 6 (d1.toList.map encS))]⟩)
    (fun t => a ≤ t ∧ t ≤ b - 1 ∧ Go.Sort.scanDown (fun x => !ltS x d1[a]!) d1 s (b - 1) = t) ?_ ?_
  · simp (config := {maxSteps := 2000000, implicitDefEqProofs := false}) (disch := omega) only [↓reduceIte, go_sem, Int.reduceToNat, Nat.reduceAdd, Nat.reduceLeDiff, Nat.reduceEqDiff, Nat.reduceSub, Nat.reduceMul, reduceCtorEq]
    refine loopL (σ := Nat) (fun t => ⟨[(0, .hs 0 v 0 d.size), (1, .int .i64 a), (4, cF), (12, .int .i64 s), (13, .int .i64 t)], [(0, .arr v 6 (d1.toList.map encS))]⟩)
      (fun t => a ≤ t ∧ t ≤ b - 1 ∧ Go.Sort.scanDown (fun x => !ltS x d1[a]!) d1 s (b - 1) = Go.Sort.scanDown (fun x => !ltS x d1[a]!) d1 s t) (fun t => t) (b - 1) ?_ ⟨by omega, Nat.le_refl _, rfl⟩ ?_
    · simp (config := {maxSteps := 2000000, implicitDefEqProofs := false}) (disch := omega) only [↓reduceIte, go_sem, Int.reduceToNat, Nat.reduceAdd, Nat.reduceLeDiff, Nat.reduceEqDiff, Nat.reduceSub, Nat.reduceMul, reduceCtorEq]
      have : ((b - 1 : Nat) : Int) = (b : Int) - 1 := by omega
      simp only [this]
    rintro t ⟨q1, q2, q3⟩
    rw [scanDown_step (j := t) (by omega)] at q3
    simp (config := {maxSteps := 2000000, implicitDefEqProofs := false}) (disch := omega) only [↓reduceIte, go_sem, Int.reduceToNat, Nat.reduceAdd, Nat.reduceLeDiff, Nat.reduceEqDiff, Nat.reduceSub, Nat.reduceMul, reduceCtorEq]
    refine ifD (fun g => ?_) (fun g => ?_)
    · have rs := rdD (d := d1) (show t < d1.size by omega)
      simp only [encS] at rs
      simp (config := {maxSteps := 2000000, implicitDefEqProofs := false}) (disch := omega) only [↓reduceIte, go_sem, Int.reduceToNat, Nat.reduceAdd, Nat.reduceLeDiff, Nat.reduceEqDiff, Nat.reduceSub, Nat.reduceMul, reduceCtorEq, ra, rs]
      refine callL (C38 d1[t]! d1[a]!) ?_
      simp (config := {maxSteps := 2000000, implicitDefEqProofs := false}) (disch := omega) only [↓reduceIte, go_sem, Int.reduceToNat, Nat.reduceAdd, Nat.reduceLeDiff, Nat.reduceEqDiff, Nat.reduceSub, Nat.reduceMul, reduceCtorEq]
      refine accL (by kernel_rfl) ?_
      simp (config := {maxSteps := 2000000, implicitDefEqProofs := false}) (disch := omega) only [↓reduceIte, go_sem, Int.reduceToNat, Nat.reduceAdd, Nat.reduceLeDiff, Nat.reduceEqDiff, Nat.reduceSub, Nat.reduceMul, reduceCtorEq]
      refine ifD (fun g3 => ?_) (fun g3 => ?_)
      · simp (config := {maxSteps := 2000000, implicitDefEqProofs := false}) (disch := omega) only [↓reduceIte, go_sem, Int.reduceToNat, Nat.reduceAdd, Nat.reduceLeDiff, Nat.reduceEqDiff, Nat.reduceSub, Nat.reduceMul, reduceCtorEq]
        rw [if_neg (by simp [ltS, g3])] at q3
        exact ⟨t, by simp, q1, q2, q3⟩
      · simp (config := {maxSteps := 2000000, implicitDefEqProofs := false}) (disch := omega) only [↓reduceIte, go_sem, Int.reduceToNat, Nat.reduceAdd, Nat.reduceLeDiff, Nat.reduceEqDiff, Nat.reduceSub, Nat.reduceMul, reduceCtorEq]
        rw [if_pos ⟨by omega, by simp [ltS, g3]⟩] at q3
        refine ⟨t - 1, ?_, ⟨by omega, by omega, q3⟩, by omega⟩
        have : ((t - 1 : Nat) : Int) = (t : Int) - 1 := by omega
        simp only [this]
    · simp (config := {maxSteps := 2000000, implicitDefEqProofs := false}) (disch := omega) only [↓reduceIte, go_sem, Int.reduceToNat, Nat.reduceAdd, Nat.reduceLeDiff, Nat.reduceEqDiff, Nat.reduceSub, Nat.reduceMul, reduceCtorEq]
      refine accL (by kernel_rfl) ?_
      simp (config := {maxSteps := 2000000, implicitDefEqProofs := false}) (disch := omega) only [↓reduceIte, go_sem, Int.reduceToNat, Nat.reduceAdd, Nat.reduceLeDiff, Nat.reduceEqDiff, Nat.reduceSub, Nat.reduceMul, reduceCtorEq]
      rw [if_neg (by omega)] at q3
      exact ⟨t, by simp, q1, q2, q3⟩
  rintro t ⟨q1, q2, q3⟩
  rw [q3] at h6
  clear q3
  simp (config := {maxSteps := 2000000, implicitDefEqProofs := false}) (disch := omega) only [↓reduceIte, go_sem, Int.reduceToNat, Nat.reduceAdd, Nat.reduceLeDiff, Nat.reduceEqDiff, Nat.reduceSub, Nat.reduceMul, reduceCtorEq]
  refine ifD (fun g => ?_) (fun g => ?_)
  · rw [if_pos (by omega)] at h6
    have c0 := rdD (d := d1) (show t < d1.size by omega)
    have c1 := rdD (d := d1) (show a < d1.size by omega)
    have hw := wrD (d := d1) (i := t) (j := a) (by omega) (by omega)
    have e1 := hw.1
    have e2 := hw.2
    simp only [encS] at c0 c1 e1 e2
    simp (config := {maxSteps := 2000000, implicitDefEqProofs := false}) (disch := omega) only [↓reduceIte, go_sem, Int.reduceToNat, Nat.reduceAdd, Nat.reduceLeDiff, Nat.reduceEqDiff, Nat.reduceSub, Nat.reduceMul, reduceCtorEq, c0, c1, e1, e2]
    refine accL (by kernel_rfl) ?_
    simp (config := {maxSteps := 2000000, implicitDefEqProofs := false}) (disch := omega) only [↓reduceIte, go_sem, Int.reduceToNat, Nat.reduceAdd, Nat.reduceLeDiff, Nat.reduceEqDiff, Nat.reduceSub, Nat.reduceMul, reduceCtorEq, c0, c1, e1, e2]
    rw [← h6]
    exact ⟨rfl, rfl⟩
  · rw [if_neg (by omega)] at h6
    have c0 := rdD (d := d1) (show s < d1.size by omega)
    have c1 := rdD (d := d1) (show t < d1.size by omega)
    have hw := wrD (d := d1) (i := s) (j := t) (by omega) (by omega)
    have e1 := hw.1
    have e2 := hw.2
    simp only [encS] at c0 c1 e1 e2
    simp (config := {maxSteps := 2000000, implicitDefEqProofs := false}) (disch := omega) only [↓reduceIte, go_sem, Int.reduceToNat, Nat.reduceAdd, Nat.reduceLeDiff, Nat.reduceEqDiff, Nat.reduceSub, Nat.reduceMul, reduceCtorEq, c0, c1, e1, e2]
    refine accL (by kernel_rfl) ?_
    simp (config := {maxSteps := 2000000, implicitDefEqProofs := false}) (disch := omega) only [↓reduceIte, go_sem, Int.reduceToNat, Nat.reduceAdd, Nat.reduceLeDiff, Nat.reduceEqDiff, Nat.reduceSub, Nat.reduceMul, reduceCtorEq, c0, c1, e1, e2]
    have h7 : (Go.Sort.swp d1 s t).size = d.size := by rw [Go.Sort.size_swp]; exact h5
    clear c0 c1 hw e1 e2 ra
    have st0 : a < s + 1 ∧ s + 1 ≤ b + 1 ∧ t - 1 < b ∧ a ≤ t - 1 := by omega
    generalize Go.Sort.swp d1 s t = d2 at h6 h7 ⊢
    have ecast : (t : Int) - 1 = ((t - 1 : Nat) : Int) := by omega
    rw [ecast]
    clear ecast
    generalize hF : Go.Sort.partLoop ltS a (s + 1) (t - 1) d2 = F at h6
    generalize t - 1 = j0 at *
    refine loopL (σ := (Nat × Nat) × Array Seg) (fun s => ⟨[(0, .hs 0 v 0 d.size), (1, .int .i64 a), (4, cF), (12, .int .i64 s.1.1), (13, .int .i64 s.1.2)], [(0, .arr v 6 (s.2.toList.map encS))]⟩)
      (fun s => a < s.1.1 ∧ s.1.1 ≤ b + 1 ∧ s.1.2 < b ∧ a ≤ s.1.2 ∧ s.2.size = d.size ∧ Go.Sort.partLoop ltS a s.1.1 s.1.2 s.2 = F) (fun s => s.1.2 + 2 - s.1.1) ((s + 1, j0), d2) (by simp (config := {maxSteps := 2000000, implicitDefEqProofs := false}) (disch := omega) only [↓reduceIte, go_sem, Int.reduceToNat, Nat.reduceAdd, Nat.reduceLeDiff, Nat.reduceEqDiff, Nat.reduceSub, Nat.reduceMul, reduceCtorEq]; rfl) ⟨st0.1, st0.2.1, st0.2.2.1, st0.2.2.2, h7, hF⟩ ?_
    clear hF h7 h5 st0 g q1 q2 k1 k2
    have hRES := h6
    clear h6
    clear d1
    rintro ⟨⟨i, j⟩, d1⟩ ⟨h1, h2, h3, h4, h5, h6⟩
    simp only at h1 h2 h3 h4 h5 h6
    have ra := rdD (d := d1) (show a < d1.size by omega)
    simp only [encS] at ra
    rw [Go.Sort.partLoop_eq] at h6
    simp (config := {maxSteps := 2000000, implicitDefEqProofs := false}) (disch := omega) only [↓reduceIte, go_sem, Int.reduceToNat, Nat.reduceAdd, Nat.reduceLeDiff, Nat.reduceEqDiff, Nat.reduceSub, Nat.reduceMul, reduceCtorEq]
    refine joinL (σ := Nat) (fun s => ⟨[(0, .hs 0 v 0 d.size), (1, .int .i64 a), (4, cF), (12, .int .i64 s), (13, .int .i64 j)], [(0, .arr v 6 (d1.toList.map encS))]⟩)
      (fun s => i ≤ s ∧ s ≤ b + 1 ∧ Go.Sort.scanUp (fun x => ltS x d1[a]!) d1 (j) (i) = s) ?_ ?_
    · simp (config := {maxSteps := 2000000, implicitDefEqProofs := false}) (disch := omega) only [↓reduceIte, go_sem, Int.reduceToNat, Nat.reduceAdd, Nat.reduceLeDiff, Nat.reduceEqDiff, Nat.reduceSub, Nat.reduceMul, reduceCtorEq]
      refine loopL (σ := Nat) (fun s => ⟨[(0, .hs 0 v 0 d.size), (1, .int .i64 a), (4, cF), (12, .int .i64 s), (13, .int .i64 j)], [(0, .arr v 6 (d1.toList.map encS))]⟩)
        (fun s => i ≤ s ∧ s ≤ b + 1 ∧ Go.Sort.scanUp (fun x => ltS x d1[a]!) d1 (j) (i) = Go.Sort.scanUp (fun x => ltS x d1[a]!) d1 (j) s) (fun s => b + 1 - s) (i) (by simp (config := {maxSteps := 2000000, implicitDefEqProofs := false}) (disch := omega) only [↓reduceIte, go_sem, Int.reduceToNat, Nat.reduceAdd, Nat.reduceLeDiff, Nat.reduceEqDiff, Nat.reduceSub, Nat.reduceMul, reduceCtorEq]) ⟨Nat.le_refl _, by omega, rfl⟩ ?_
      rintro s ⟨k1, k2, k3⟩
      rw [Go.Sort.scanUp.eq_def _ _ _ s] at k3
      simp (config := {maxSteps := 2000000, implicitDefEqProofs := false}) (disch := omega) only [↓reduceIte, go_sem, Int.reduceToNat, Nat.reduceAdd, Nat.reduceLeDiff, Nat.reduceEqDiff, Nat.reduceSub, Nat.reduceMul, reduceCtorEq]
      refine ifD (fun g => ?_) (fun g => ?_)
      · have rs := rdD (d := d1) (show s < d1.size by omega)
        simp only [encS] at rs
        simp (config := {maxSteps := 2000000, implicitDefEqProofs := false}) (disch := omega) only [↓reduceIte, go_sem, Int.reduceToNat, Nat.reduceAdd, Nat.reduceLeDiff, Nat.reduceEqDiff, Nat.reduceSub, Nat.reduceMul, reduceCtorEq, ra, rs]
        refine callL (C38 d1[s]! d1[a]!) ?_
        simp (config := {maxSteps := 2000000, implicitDefEqProofs := false}) (disch := omega) only [↓reduceIte, go_sem, Int.reduceToNat, Nat.reduceAdd, Nat.reduceLeDiff, Nat.reduceEqDiff, Nat.reduceSub, Nat.reduceMul, reduceCtorEq]
        refine accL (by kernel_rfl) ?_
        simp (config := {maxSteps := 2000000, implicitDefEqProofs := false}) (disch := omega) only [↓reduceIte, go_sem, Int.reduceToNat, Nat.reduceAdd, Nat.reduceLeDiff, Nat.reduceEqDiff, Nat.reduceSub, Nat.reduceMul, reduceCtorEq]
        refine ifD (fun g3 => ?_) (fun g3 => ?_)
        · simp (config := {maxSteps := 2000000, implicitDefEqProofs := false}) (disch := omega) only [↓reduceIte, go_sem, Int.reduceToNat, Nat.reduceAdd, Nat.reduceLeDiff, Nat.reduceEqDiff, Nat.reduceSub, Nat.reduceMul, reduceCtorEq]
          rw [if_pos (by simp only [ltS, g3, decide_true, Bool.and_true, decide_eq_true_eq]; omega)] at k3
          exact ⟨s + 1, by simp, ⟨by omega, by omega, k3⟩, by omega⟩
        · simp (config := {maxSteps := 2000000, implicitDefEqProofs := false}) (disch := omega) only [↓reduceIte, go_sem, Int.reduceToNat, Nat.reduceAdd, Nat.reduceLeDiff, Nat.reduceEqDiff, Nat.reduceSub, Nat.reduceMul, reduceCtorEq]
          rw [if_neg (by simp [ltS, g3])] at k3
          exact ⟨s, by simp, k1, k2, k3⟩
      · simp (config := {maxSteps := 2000000, implicitDefEqProofs := false}) (disch := omega) only [↓reduceIte, go_sem, Int.reduceToNat, Nat.reduceAdd, Nat.reduceLeDiff, Nat.reduceEqDiff, Nat.reduceSub, Nat.reduceMul, reduceCtorEq]
        refine accL (by kernel_rfl) ?_
        simp (config := {maxSteps := 2000000, implicitDefEqProofs := false}) (disch := omega) only [↓reduceIte, go_sem, Int.reduceToNat, Nat.reduceAdd, Nat.reduceLeDiff, Nat.reduceEqDiff, Nat.reduceSub, Nat.reduceMul, reduceCtorEq]
        rw [if_neg (by simp only [Bool.and_eq_true, decide_eq_true_eq]; omega)] at k3
        exact ⟨s, by simp, k1, k2, k3⟩
    rintro s ⟨k1, k2, k3⟩
    rw [k3] at h6
    clear k3
    simp (config := {maxSteps := 2000000, implicitDefEqProofs := false}) (disch := omega) only [↓reduceIte, go_sem, Int.reduceToNat, Nat.reduceAdd, Nat.reduceLeDiff, Nat.reduceEqDiff, Nat.reduceSub, Nat.reduceMul, reduceCtorEq]
    refine joinL (σ := Nat) (fun t => ⟨[(0, .hs 0 v 0 d.size), (1, .int .i64 a), (4, cF), (12, .int .i64 s), (13, .int .i64 t)], [(0, .arr v 6 (d1.toList.map encS))]⟩)
      (fun t => a ≤ t ∧ t ≤ j ∧ Go.Sort.scanDown (fun x => !ltS x d1[a]!) d1 s (j) = t) ?_ ?_
    · simp (config := {maxSteps := 2000000, implicitDefEqProofs := false}) (disch := omega) only [↓reduceIte, go_sem, Int.reduceToNat, Nat.reduceAdd, Nat.reduceLeDiff, Nat.reduceEqDiff, Nat.reduceSub, Nat.reduceMul, reduceCtorEq]
      refine loopL (σ := Nat) (fun t => ⟨[(0, .hs 0 v 0 d.size), (1, .int .i64 a), (4, cF), (12, .int .i64 s), (13, .int .i64 t)], [(0, .arr v 6 (d1.toList.map encS))]⟩)
        (fun t => a ≤ t ∧ t ≤ j ∧ Go.Sort.scanDown (fun x => !ltS x d1[a]!) d1 s (j) = Go.Sort.scanDown (fun x => !ltS x d1[a]!) d1 s t) (fun t => t) (j) (by simp (config := {maxSteps := 2000000, implicitDefEqProofs := false}) (disch := omega) only [↓reduceIte, go_sem, Int.reduceToNat, Nat.reduceAdd, Nat.reduceLeDiff, Nat.reduceEqDiff, Nat.reduceSub, Nat.reduceMul, reduceCtorEq]) ⟨by omega, Nat.le_refl _, rfl⟩ ?_
      rintro t ⟨q1, q2, q3⟩
      rw [scanDown_step (j := t) (by omega)] at q3
      simp (config := {maxSteps := 2000000, implicitDefEqProofs := false}) (disch := omega) only [↓reduceIte, go_sem, Int.reduceToNat, Nat.reduceAdd, Nat.reduceLeDiff, Nat.reduceEqDiff, Nat.reduceSub, Nat.reduceMul, reduceCtorEq]
      refine ifD (fun g => ?_) (fun g => ?_)
      · have rs := rdD (d := d1) (show t < d1.size by omega)
        simp only [encS] at rs
        simp (config := {maxSteps := 2000000, implicitDefEqProofs := false}) (disch := omega) only [↓reduceIte, go_sem, Int.reduceToNat, Nat.reduceAdd, Nat.reduceLeDiff, Nat.reduceEqDiff, Nat.reduceSub, Nat.reduceMul, reduceCtorEq, ra, rs]
        refine callL (C38 d1[t]! d1[a]!) ?_
        simp (config := {maxSteps := 2000000, implicitDefEqProofs := false}) (disch := omega) only [↓reduceIte, go_sem, Int.reduceToNat, Nat.reduceAdd, Nat.reduceLeDiff, Nat.reduceEqDiff, Nat.reduceSub, Nat.reduceMul, reduceCtorEq]
        refine accL (by kernel_rfl) ?_
        simp (config := {maxSteps := 2000000, implicitDefEqProofs := false}) (disch := omega) only [↓reduceIte, go_sem, Int.reduceToNat, Nat.reduceAdd, Nat.reduceLeDiff, Nat.reduceEqDiff, Nat.reduceSub, Nat.reduceMul, reduceCtorEq]
        refine ifD (fun g3 => ?_) (fun g3 => ?_)
        · simp (config := {maxSteps := 2000000, implicitDefEqProofs := false}) (disch := omega) only [↓reduceIte, go_sem, Int.reduceToNat, Nat.reduceAdd, Nat.reduceLeDiff, Nat.reduceEqDiff, Nat.reduceSub, Nat.reduceMul, reduceCtorEq]
          rw [if_neg (by simp [ltS, g3])] at q3
          exact ⟨t, by simp, q1, q2, q3⟩
        · simp (config := {maxSteps := 2000000, implicitDefEqProofs := false}) (disch := omega) only [↓reduceIte, go_sem, Int.reduceToNat, Nat.reduceAdd, Nat.reduceLeDiff, Nat.reduceEqDiff, Nat.reduceSub, Nat.reduceMul, reduceCtorEq]
          rw [if_pos ⟨by omega, by simp [ltS, g3]⟩] at q3
          refine ⟨t - 1, ?_, ⟨by omega, by omega, q3⟩, by omega⟩
          have : ((t - 1 : Nat) : Int) = (t : Int) - 1 := by omega
          simp only [this]
      · simp (config := {maxSteps := 2000000, implicitDefEqProofs := false}) (disch := omega) only [↓reduceIte, go_sem, Int.reduceToNat, Nat.reduceAdd, Nat.reduceLeDiff, Nat.reduceEqDiff, Nat.reduceSub, Nat.reduceMul, reduceCtorEq]
        refine accL (by kernel_rfl) ?_
        simp (config := {maxSteps := 2000000, implicitDefEqProofs := false}) (disch := omega) only [↓reduceIte, go_sem, Int.reduceToNat, Nat.reduceAdd, Nat.reduceLeDiff, Nat.reduceEqDiff, Nat.reduceSub, Nat.reduceMul, reduceCtorEq]
        rw [if_neg (by omega)] at q3
        exact ⟨t, by simp, q1, q2, q3⟩
    rintro t ⟨q1, q2, q3⟩
    rw [q3] at h6
    clear q3
    simp (config := {maxSteps := 2000000, implicitDefEqProofs := false}) (disch := omega) only [↓reduceIte, go_sem, Int.reduceToNat, Nat.reduceAdd, Nat.reduceLeDiff, Nat.reduceEqDiff, Nat.reduceSub, Nat.reduceMul, reduceCtorEq]
    refine ifD (fun g => ?_) (fun g => ?_)
    · rw [if_pos (by omega)] at h6
      subst h6
      have c0 := rdD (d := d1) (show t < d1.size by omega)
      have c1 := rdD (d := d1) (show a < d1.size by omega)
      have hw := wrD (d := d1) (i := t) (j := a) (by omega) (by omega)
      have e1 := hw.1
      have e2 := hw.2
      simp only [encS] at c0 c1 e1 e2
      simp (config := {maxSteps := 2000000, implicitDefEqProofs := false}) (disch := omega) only [↓reduceIte, go_sem, Int.reduceToNat, Nat.reduceAdd, Nat.reduceLeDiff, Nat.reduceEqDiff, Nat.reduceSub, Nat.reduceMul, reduceCtorEq, c0, c1, e1, e2]
      refine accL (by kernel_rfl) ?_
      simp (config := {maxSteps := 2000000, implicitDefEqProofs := false}) (disch := omega) only [↓reduceIte, go_sem, Int.reduceToNat, Nat.reduceAdd, Nat.reduceLeDiff, Nat.reduceEqDiff, Nat.reduceSub, Nat.reduceMul, reduceCtorEq, c0, c1, e1, e2]
      rw [← hRES]
      exact ⟨rfl, rfl⟩
    · rw [if_neg (by omega)] at h6
      have c0 := rdD (d := d1) (show s < d1.size by omega)
      have c1 := rdD (d := d1) (show t < d1.size by omega)
      have hw := wrD (d := d1) (i := s) (j := t) (by omega) (by omega)
      have e1 := hw.1
      have e2 := hw.2
      simp only [encS] at c0 c1 e1 e2
      simp (config := {maxSteps := 2000000, implicitDefEqProofs := false}) (disch := omega) only [↓reduceIte, go_sem, Int.reduceToNat, Nat.reduceAdd, Nat.reduceLeDiff, Nat.reduceEqDiff, Nat.reduceSub, Nat.reduceMul, reduceCtorEq, c0, c1, e1, e2]
      refine accL (by kernel_rfl) ?_
      simp (config := {maxSteps := 2000000, implicitDefEqProofs := false}) (disch := omega) only [↓reduceIte, go_sem, Int.reduceToNat, Nat.reduceAdd, Nat.reduceLeDiff, Nat.reduceEqDiff, Nat.reduceSub, Nat.reduceMul, reduceCtorEq, c0, c1, e1, e2]
      refine ⟨((s + 1, t - 1), Go.Sort.swp d1 s t), ?_, ⟨by simp only; omega, by simp only; omega, by simp only; omega, by simp only; omega, by rw [Go.Sort.size_swp]; exact h5, h6⟩, by simp only; omega⟩
      have : ((t - 1 : Nat) : Int) = (t : Int) - 1 := by omega
      simp [this]

end Go.Proofs.Ytpmabjkjolhilaa.X
namespace Go.Proofs.Ytpmabjkjolhilaa.X
open Go Go.AM Go.Proofs
attribute [local go_sem ↓] w_skip w_lbl w_ops w_draw w_pre w_post w_alt w_seq w_cond w_block w_join w_loop w_exit w_ret w_scope w_rfunc l_nil l_cons th_n th_e th_r bk_n bk_r bk_e t_nil t_it t_call i_nil i_one i_grp s_nil s_cons c_call e_mv e_nil e_frz o_mov o_bin o_eq o_un o_conv o_len o_slen o_idx o_aix o_fad o_load o_store o_boxp o_boxo o_boxm o_alloc o_alloca o_nilarr o_build o_bslp o_bslo o_slc o_sslc o_slc3 o_sidx o_mkfn o_ext o_pick o_callf o_callb o_appd o_clear o_mxn o_field o_nilc o_make o_buildm o_boxg o_mkif o_tass o_eqs o_callo k_int k_str k_bool k_grb k_grt k_some k_none k_arr k_lens k_lenf k_lenh k_idxs k_idxf k_idxh k_ld k_loadp k_loadr k_loade k_storer k_storee k_oin k_ois k_slcs k_slcf k_slch k_slc3s k_slc3f k_slc3h k_app2 k_apps k_appf k_apph k_cals k_cald k_cali k_cnb k_cna k_esn k_esc k_efn k_efc k_esh b_add b_sub b_mul b_quo b_rem b_and b_or b_xor b_andNot b_eql b_neq b_lss b_leq b_gtr b_geq b_shl b_shr b_seq b_sne b_slt b_sad q_bool q_str q_nil q_nilf u_not u_neg u_xor f_ret f_nor v_r v_c v_reg v_ob v_set v_put v_so v_sn v_pn v_pc g_nil d_nil p_nil m_mv m_fr z_nil z_cons z_an z_ac g_cons d_cons p_cons y_mov y_bin y_eq y_un y_conv y_len y_slen y_idx y_aix y_fad y_load y_store y_boxp y_boxo y_boxm y_alloc y_alloca y_nilarr y_build y_bslp y_bslo y_slc y_sslc y_slc3 y_sidx y_mkfn y_ext y_pick y_callf y_callb y_appd y_clear y_mxn y_field y_nilc y_make y_buildm y_boxg y_mkif y_tass y_eqs y_callo nb_if
attribute [local go_sem] VL_mk VL2_mk If_t If_f If_not If_and If_or If_dt If_df If_et If_ef If_ne Ck_t Ck_h Opt_s ld_a ld_c renL ren keepR renA idxM invL getObs mapOb renOb allNone putAll fzR fzO fz fzL fzOb frzOk upFrom mapR resOne resA cellsOf oneA oneAL isP isPL okSt kRows kParts fillA setAt bor bor0 bor1 bor2 borC borI key0 key1 key2 keysA fillM cellsM cellM unif ptrA ifOk kPartsM getObsM allNoneM zipU scal0 scalar eqC evNil evNilF List.map_cons List.map_nil List.cons_append List.nil_append List.append_nil List.drop_zero List.drop_succ_cons List.drop_nil List.take_succ_cons List.take_zero List.take_nil List.length_cons List.length_nil List.length_map List.getElem?_map Option.map_some Option.map_none Int.toNat_natCast Int.toNat_zero Int.toNat_one Int.natCast_nonneg List.flatMap_cons List.flatMap_nil List.all_cons List.all_nil Bool.and_true Bool.true_and Bool.and_false Bool.false_and Bool.not_true Bool.not_false beq_self_eq_true nb_self all_nil List.forall_mem_cons tk_map tk_app bs_self bs_dec bq_t bq_f Bool.not_not decide_true decide_false Bool.not_not and_self and_true true_and eq_self List.reverse_cons List.reverse_nil List.getElem?_cons_zero List.getElem?_cons_succ cond_true cond_false List.set_cons_zero List.set_cons_succ Nat.zero_add Nat.add_zero if_true if_false ite_true ite_false implies_true wrap64 wrap8
set_option linter.unusedVariables false
set_option linter.unusedSimpArgs false
set_option maxRecDepth 10000
set_option maxHeartbeats 8000000
def lenTab : ByteArray := ⟨#[0, 1, 2, 2, 3, 3, 3, 3, 4, 4, 4, 4, 4, 4, 4, 4, 5, 5, 5, 5, 5, 5, 5, 5, 5, 5, 5, 5, 5, 5, 5, 5, 6, 6, 6, 6, 6, 6, 6, 6, 6, 6, 6, 6, 6, 6, 6, 6, 6, 6, 6, 6, 6, 6, 6, 6, 6, 6, 6, 6, 6, 6, 6, 6, 7, 7, 7, 7, 7, 7, 7, 7, 7, 7, 7, 7, 7, 7, 7, 7, 7, 7, 7, 7, 7, 7, 7, 7, 7, 7, 7, 7, 7, 7, 7, 7, 7, 7, 7, 7, 7, 7, 7, 7, 7, 7, 7, 7, 7, 7, 7, 7, 7, 7, 7, 7, 7, 7, 7, 7, 7, 7, 7, 7, 7, 7, 7, 7, 8, 8, 8, 8, 8, 8, 8, 8, 8, 8, 8, 8, 8, 8, 8, 8, 8, 8, 8, 8, 8, 8, 8, 8, 8, 8, 8, 8, 8, 8, 8, 8, 8, 8, 8, 8, 8, 8, 8, 8, 8, 8, 8, 8, 8, 8, 8, 8, 8, 8, 8, 8, 8, 8, 8, 8, 8, 8, 8, 8, 8, 8, 8, 8, 8, 8, 8, 8, 8, 8, 8, 8, 8, 8, 8, 8, 8, 8, 8, 8, 8, 8, 8, 8, 8, 8, 8, 8, 8, 8, 8, 8, 8, 8, 8, 8, 8, 8, 8, 8, 8, 8, 8, 8, 8, 8, 8, 8, 8, 8, 8, 8, 8, 8, 8, 8, 8, 8, 8, 8, 8, 8, 8, 8, 8, 8, 8, 8]⟩
def lenB (n : Nat) : UInt8 := lenTab.data[n]!
theorem lenB_at {n : Nat} (h : n < 256) : lenTab.data[n]? = some (lenB n) := by
  have : n < lenTab.data.size := h
  unfold lenB
  rw [getElem!_pos lenTab.data n this, Array.getElem?_eq_getElem this]
theorem lenB_fact : ∀ n, n < 128 → 0 < n → (lenB n).toNat ≤ 7 ∧ n < 2 ^ (lenB n).toNat ∧ 2 ^ (lenB n).toNat ≤ 2 * n := by decide +kernel
theorem lenB_le : ∀ n, n < 128 → (lenB n).toNat ≤ 7 := by decide +kernel
theorem C58 (n : Nat) (hn : n < 128) : Ctr Try.prog 58 [.int .u64 n] [] (ret [.int .i64 (lenB n).toNat]) := by
  have h7 := lenB_le n hn
  apply ctr_b A58_ok rfl (Nat.le_of_ble_eq_true rfl)
  unfold A58
  simp only [initL, Nat.reduceAdd]
  simp (config := {maxSteps := 2000000, implicitDefEqProofs := false}) (disch := omega) only [↓reduceIte, go_sem, Int.reduceToNat, Nat.reduceAdd, Nat.reduceLeDiff, Nat.reduceEqDiff, Nat.reduceSub, Nat.reduceMul, reduceCtorEq]
  refine optL (m := lenB n) (lenB_at (by omega)) ?_
  simp (config := {maxSteps := 2000000, implicitDefEqProofs := false}) (disch := omega) only [↓reduceIte, go_sem, Int.reduceToNat, Nat.reduceAdd, Nat.reduceLeDiff, Nat.reduceEqDiff, Nat.reduceSub, Nat.reduceMul, reduceCtorEq]
  exact ⟨by simp, rfl⟩
theorem C40 (n : Nat) (hn : n < 128) : Ctr Try.prog 40 [.int .u64 n] [] (ret [.int .i64 (lenB n).toNat]) := by
  apply ctr_b A40_ok rfl (Nat.le_of_ble_eq_true rfl)
  unfold A40
  simp only [initL, Nat.reduceAdd]
  simp (config := {maxSteps := 2000000, implicitDefEqProofs := false}) (disch := omega) only [↓reduceIte, go_sem, Int.reduceToNat, Nat.reduceAdd, Nat.reduceLeDiff, Nat.reduceEqDiff, Nat.reduceSub, Nat.reduceMul, reduceCtorEq]
  refine callL (C58 n hn) ?_
  simp (config := {maxSteps := 2000000, implicitDefEqProofs := false}) (disch := omega) only [↓reduceIte, go_sem, Int.reduceToNat, Nat.reduceAdd, Nat.reduceLeDiff, Nat.reduceEqDiff, Nat.reduceSub, Nat.reduceMul, reduceCtorEq]
  exact ⟨rfl, rfl⟩
theorem wrapU {x : Int} (h0 : 0 ≤ x) (h1 : x < 18446744073709551616) : IntKind.u64.wrap x = x := by
  show x % 2 ^ 64 = x
  omega
theorem C64 (n : Nat) (hn : n < 128) (h0 : 0 < n) : Ctr Try.prog 64 [.int .i64 n] [] (ret [.int .u64 (2 ^ (lenB n).toNat : Nat)]) := by
  have h7 := lenB_fact n hn h0
  generalize hk : (lenB n).toNat = k at h7
  apply ctr_b A64_ok rfl (Nat.le_of_ble_eq_true rfl)
  unfold A64
  simp only [initL, Nat.reduceAdd]
  simp (config := {maxSteps := 2000000, implicitDefEqProofs := false}) (disch := omega) only [↓reduceIte, go_sem, Int.reduceToNat, Nat.reduceAdd, Nat.reduceLeDiff, Nat.reduceEqDiff, Nat.reduceSub, Nat.reduceMul, reduceCtorEq, wrapU]
  refine callL (C40 n hn) ?_
  simp (config := {maxSteps := 2000000, implicitDefEqProofs := false}) (disch := omega) only [↓reduceIte, go_sem, Int.reduceToNat, Nat.reduceAdd, Nat.reduceLeDiff, Nat.reduceEqDiff, Nat.reduceSub, Nat.reduceMul, reduceCtorEq, hk]
  refine ⟨?_, rfl⟩
  have hk7 := h7.1
  have : k = 0 ∨ k = 1 ∨ k = 2 ∨ k = 3 ∨ k = 4 ∨ k = 5 ∨ k = 6 ∨ k = 7 := by omega
  clear hk h7 hk7
  rcases this with rfl | rfl | rfl | rfl | rfl | rfl | rfl | rfl
  all_goals rfl
theorem C65 (x : Int) : Ctr Try.prog 65 [.ref 0 0] [.pbox [.int .u64 x]] (fun r o => ∃ y : Int, r = [.int .u64 y] ∧ o = [.pbox [.int .u64 y]]) := by
  apply ctr_b A65_ok rfl (Nat.le_of_ble_eq_true rfl)
  unfold A65
  simp only [initL, Nat.reduceAdd]
  simp (config := {maxSteps := 2000000, implicitDefEqProofs := false}) (disch := omega) only [↓reduceIte, go_sem, Int.reduceToNat, Nat.reduceAdd, Nat.reduceLeDiff, Nat.reduceEqDiff, Nat.reduceSub, Nat.reduceMul, reduceCtorEq]
  refine accL (by kernel_rfl) ?_
  simp (config := {maxSteps := 2000000, implicitDefEqProofs := false}) (disch := omega) only [↓reduceIte, go_sem, Int.reduceToNat, Nat.reduceAdd, Nat.reduceLeDiff, Nat.reduceEqDiff, Nat.reduceSub, Nat.reduceMul, reduceCtorEq]
  refine accL (by kernel_rfl) ?_
  simp (config := {maxSteps := 2000000, implicitDefEqProofs := false}) (disch := omega) only [↓reduceIte, go_sem, Int.reduceToNat, Nat.reduceAdd, Nat.reduceLeDiff, Nat.reduceEqDiff, Nat.reduceSub, Nat.reduceMul, reduceCtorEq]
  refine accL (by kernel_rfl) ?_
  simp (config := {maxSteps := 2000000, implicitDefEqProofs := false}) (disch := omega) only [↓reduceIte, go_sem, Int.reduceToNat, Nat.reduceAdd, Nat.reduceLeDiff, Nat.reduceEqDiff, Nat.reduceSub, Nat.reduceMul, reduceCtorEq]
  exact ⟨_, rfl, rfl⟩
def rowN (v : Nat) (d : Array Seg) (n : Int) : List Ob := [.arr v 6 (d.toList.map encS), .pbox [.int .i64 n]]
theorem C80 (v : Nat) (d : Array Seg) (a b L : Nat) (n x y : Int) (ex : x = a) (ey : y = b) (eL : L = d.size) (ha : a < d.size) (hb : b < d.size) :
    Ctr Try.prog 80 [.hs 0 v 0 L, .int .i64 x, .int .i64 y, .ref 1 0, cF] (rowN v d n) (fun r o => ∃ (n' : Int) (i j : Nat), r = [.int .i64 i, .int .i64 j] ∧ o = rowN v d n' ∧ ((i = a ∧ j = b) ∨ (i = b ∧ j = a))) := by
  subst ex ey eL
  have b0 := rdD (d := d) ha
  have b1 := rdD (d := d) hb
  simp only [encS] at b0 b1
  apply ctr_b A80_ok rfl (Nat.le_of_ble_eq_true rfl)
  unfold A80
  simp only [rowN, initL, Nat.reduceAdd]
  simp (config := {maxSteps := 2000000, implicitDefEqProofs := false}) (disch := omega) only [↓reduceIte, go_sem, Int.reduceToNat, Nat.reduceAdd, Nat.reduceLeDiff, Nat.reduceEqDiff, Nat.reduceSub, Nat.reduceMul, reduceCtorEq, b0, b1]
  refine callL (C38 d[b]! d[a]!) ?_
  simp (config := {maxSteps := 2000000, implicitDefEqProofs := false}) (disch := omega) only [↓reduceIte, go_sem, Int.reduceToNat, Nat.reduceAdd, Nat.reduceLeDiff, Nat.reduceEqDiff, Nat.reduceSub, Nat.reduceMul, reduceCtorEq]
  refine accL (by kernel_rfl) ?_
  simp (config := {maxSteps := 2000000, implicitDefEqProofs := false}) (disch := omega) only [↓reduceIte, go_sem, Int.reduceToNat, Nat.reduceAdd, Nat.reduceLeDiff, Nat.reduceEqDiff, Nat.reduceSub, Nat.reduceMul, reduceCtorEq]
  refine ifD (fun g => ?_) (fun g => ?_)
  · simp (config := {maxSteps := 2000000, implicitDefEqProofs := false}) (disch := omega) only [↓reduceIte, go_sem, Int.reduceToNat, Nat.reduceAdd, Nat.reduceLeDiff, Nat.reduceEqDiff, Nat.reduceSub, Nat.reduceMul, reduceCtorEq]
    exact ⟨_, b, a, rfl, rfl, .inr ⟨rfl, rfl⟩⟩
  · simp (config := {maxSteps := 2000000, implicitDefEqProofs := false}) (disch := omega) only [↓reduceIte, go_sem, Int.reduceToNat, Nat.reduceAdd, Nat.reduceLeDiff, Nat.reduceEqDiff, Nat.reduceSub, Nat.reduceMul, reduceCtorEq]
    exact ⟨n, a, b, rfl, rfl, .inl ⟨rfl, rfl⟩⟩
theorem C79 (v : Nat) (d : Array Seg) (a b c L : Nat) (n x y z : Int) (ex : x = a) (ey : y = b) (ez : z = c) (eL : L = d.size) (ha : a < d.size) (hb : b < d.size) (hc : c < d.size) :
    Ctr Try.prog 79 [.hs 0 v 0 L, .int .i64 x, .int .i64 y, .int .i64 z, .ref 1 0, cF] (rowN v d n) (fun r o => ∃ (n' : Int) (m : Nat), r = [.int .i64 m] ∧ o = rowN v d n' ∧ (m = a ∨ m = b ∨ m = c)) := by
  subst ex ey ez eL
  apply ctr_b A79_ok rfl (Nat.le_of_ble_eq_true rfl)
  unfold A79
  simp only [rowN, initL, Nat.reduceAdd]
  simp (config := {maxSteps := 2000000, implicitDefEqProofs := false}) (disch := omega) only [↓reduceIte, go_sem, Int.reduceToNat, Nat.reduceAdd, Nat.reduceLeDiff, Nat.reduceEqDiff, Nat.reduceSub, Nat.reduceMul, reduceCtorEq]
  refine callO (C80 v d a b d.size n _ _ rfl rfl rfl ha hb) ?_
  rintro _ _ ⟨n1, i1, j1, rfl, rfl, h1⟩
  simp only [rowN]
  simp (config := {maxSteps := 2000000, implicitDefEqProofs := false}) (disch := omega) only [↓reduceIte, go_sem, Int.reduceToNat, Nat.reduceAdd, Nat.reduceLeDiff, Nat.reduceEqDiff, Nat.reduceSub, Nat.reduceMul, reduceCtorEq]
  refine callO (C80 v d j1 c d.size n1 _ _ rfl rfl rfl (by omega) hc) ?_
  rintro _ _ ⟨n2, i2, j2, rfl, rfl, h2⟩
  simp only [rowN]
  simp (config := {maxSteps := 2000000, implicitDefEqProofs := false}) (disch := omega) only [↓reduceIte, go_sem, Int.reduceToNat, Nat.reduceAdd, Nat.reduceLeDiff, Nat.reduceEqDiff, Nat.reduceSub, Nat.reduceMul, reduceCtorEq]
  refine callO (C80 v d i1 i2 d.size n2 _ _ rfl rfl rfl (by omega) (by omega)) ?_
  rintro _ _ ⟨n3, i3, j3, rfl, rfl, h3⟩
  simp only [rowN]
  simp (config := {maxSteps := 2000000, implicitDefEqProofs := false}) (disch := omega) only [↓reduceIte, go_sem, Int.reduceToNat, Nat.reduceAdd, Nat.reduceLeDiff, Nat.reduceEqDiff, Nat.reduceSub, Nat.reduceMul, reduceCtorEq]
  exact ⟨n3, j3, rfl, rfl, by omega⟩
theorem C78 (v : Nat) (d : Array Seg) (a L : Nat) (n x : Int) (ex : x = a) (eL : L = d.size) (ha : 0 < a) (hb : a + 1 < d.size) (hl : d.size < 1000000) :
    Ctr Try.prog 78 [.hs 0 v 0 L, .int .i64 x, .ref 1 0, cF] (rowN v d n) (fun r o => ∃ (n' : Int) (m : Nat), r = [.int .i64 m] ∧ o = rowN v d n' ∧ a - 1 ≤ m ∧ m ≤ a + 1) := by
  subst ex eL
  apply ctr_b A78_ok rfl (Nat.le_of_ble_eq_true rfl)
  unfold A78
  simp only [rowN, initL, Nat.reduceAdd]
  simp (config := {maxSteps := 2000000, implicitDefEqProofs := false}) (disch := omega) only [↓reduceIte, go_sem, Int.reduceToNat, Nat.reduceAdd, Nat.reduceLeDiff, Nat.reduceEqDiff, Nat.reduceSub, Nat.reduceMul, reduceCtorEq]
  refine callO (C79 v d (a - 1) a (a + 1) d.size n _ _ _ (by omega) rfl (by omega) rfl (by omega) (by omega) (by omega)) ?_
  rintro _ _ ⟨n1, m, rfl, rfl, h1⟩
  simp only [rowN]
  simp (config := {maxSteps := 2000000, implicitDefEqProofs := false}) (disch := omega) only [↓reduceIte, go_sem, Int.reduceToNat, Nat.reduceAdd, Nat.reduceLeDiff, Nat.reduceEqDiff, Nat.reduceSub, Nat.reduceMul, reduceCtorEq]
  exact ⟨n1, m, rfl, rfl, by omega, by omega⟩
theorem C71 (v : Nat) (d : Array Seg) (a b L : Nat) (x y : Int) (ex : x = a) (ey : y = b) (eL : L = d.size) (hab : a < b) (hb : b ≤ d.size) (hl : d.size < 1000000) :
    Ctr Try.prog 71 [.hs 0 v 0 L, .int .i64 x, .int .i64 y, cF] (rowD v d) (fun r o => ∃ (p : Nat) (h : Int), r = [.int .i64 p, .int .i64 h] ∧ o = rowD v d ∧ a ≤ p ∧ p < b) := by
  subst ex ey eL
  have tq : ((b : Int) - a).tdiv 4 = (((b - a) / 4 : Nat) : Int) := by
    rw [Int.tdiv_eq_ediv_of_nonneg (by omega)]
    omega
  have q4 : 4 * ((b - a) / 4) ≤ b - a := by omega
  have q5 : b - a < 4 * ((b - a) / 4) + 4 := by omega
  generalize (b - a) / 4 = q at tq q4 q5
  apply ctr_b A71_ok rfl (Nat.le_of_ble_eq_true rfl)
  unfold A71
  simp only [rowD, initL, Nat.reduceAdd]
  simp (config := {maxSteps := 2000000, implicitDefEqProofs := false}) (disch := omega) only [↓reduceIte, go_sem, Int.reduceToNat, Nat.reduceAdd, Nat.reduceLeDiff, Nat.reduceEqDiff, Nat.reduceSub, Nat.reduceMul, reduceCtorEq, tq]
  refine joinL (σ := Nat × Int) (fun s => ⟨[(11, .ref 11 0), (13, .int .i64 s.1)], [(0, .arr v 6 (d.toList.map encS)), (11, .pbox [.int .i64 s.2])]⟩) (fun s => a ≤ s.1 ∧ s.1 < b) ?_ ?_
  · simp (config := {maxSteps := 2000000, implicitDefEqProofs := false}) (disch := omega) only [↓reduceIte, go_sem, Int.reduceToNat, Nat.reduceAdd, Nat.reduceLeDiff, Nat.reduceEqDiff, Nat.reduceSub, Nat.reduceMul, reduceCtorEq, tq]
    refine ifD (fun g => ?_) (fun g => ?_)
    · simp (config := {maxSteps := 2000000, implicitDefEqProofs := false}) (disch := omega) only [↓reduceIte, go_sem, Int.reduceToNat, Nat.reduceAdd, Nat.reduceLeDiff, Nat.reduceEqDiff, Nat.reduceSub, Nat.reduceMul, reduceCtorEq, tq]
      refine joinL (σ := (Nat × Nat × Nat) × Int) (fun s => ⟨[(0, .hs 0 v 0 d.size), (3, cF), (11, .ref 11 0), (12, .int .i64 s.1.1), (13, .int .i64 s.1.2.1), (14, .int .i64 s.1.2.2)], [(0, .arr v 6 (d.toList.map encS)), (11, .pbox [.int .i64 s.2])]⟩) (fun s => a ≤ s.1.1 ∧ s.1.1 < b ∧ a ≤ s.1.2.1 ∧ s.1.2.1 < b ∧ a ≤ s.1.2.2 ∧ s.1.2.2 < b) ?_ ?_
      · simp (config := {maxSteps := 2000000, implicitDefEqProofs := false}) (disch := omega) only [↓reduceIte, go_sem, Int.reduceToNat, Nat.reduceAdd, Nat.reduceLeDiff, Nat.reduceEqDiff, Nat.reduceSub, Nat.reduceMul, reduceCtorEq, tq]
        refine ifD (fun g2 => ?_) (fun g2 => ?_)
        · simp (config := {maxSteps := 2000000, implicitDefEqProofs := false}) (disch := omega) only [↓reduceIte, go_sem, Int.reduceToNat, Nat.reduceAdd, Nat.reduceLeDiff, Nat.reduceEqDiff, Nat.reduceSub, Nat.reduceMul, reduceCtorEq, tq]
          refine callO (C78 v d (a + q) d.size _ _ (by omega) rfl (by omega) (by omega) (by omega)) ?_
          rintro _ _ ⟨n1, m1, rfl, rfl, h1, h1'⟩
          simp only [rowN]
          simp (config := {maxSteps := 2000000, implicitDefEqProofs := false}) (disch := omega) only [↓reduceIte, go_sem, Int.reduceToNat, Nat.reduceAdd, Nat.reduceLeDiff, Nat.reduceEqDiff, Nat.reduceSub, Nat.reduceMul, reduceCtorEq]
          refine callO (C78 v d (a + q * 2) d.size _ _ (by omega) rfl (by omega) (by omega) (by omega)) ?_
          rintro _ _ ⟨n2, m2, rfl, rfl, h2, h2'⟩
          simp only [rowN]
          simp (config := {maxSteps := 2000000, implicitDefEqProofs := false}) (disch := omega) only [↓reduceIte, go_sem, Int.reduceToNat, Nat.reduceAdd, Nat.reduceLeDiff, Nat.reduceEqDiff, Nat.reduceSub, Nat.reduceMul, reduceCtorEq]
          refine callO (C78 v d (a + q * 3) d.size _ _ (by omega) rfl (by omega) (by omega) (by omega)) ?_
          rintro _ _ ⟨n3, m3, rfl, rfl, h3, h3'⟩
          simp only [rowN]
          simp (config := {maxSteps := 2000000, implicitDefEqProofs := false}) (disch := omega) only [↓reduceIte, go_sem, Int.reduceToNat, Nat.reduceAdd, Nat.reduceLeDiff, Nat.reduceEqDiff, Nat.reduceSub, Nat.reduceMul, reduceCtorEq]
          exact ⟨((m1, m2, m3), n3), rfl, by simp only; omega, by simp only; omega, by simp only; omega, by simp only; omega, by simp only; omega, by simp only; omega⟩
        · simp (config := {maxSteps := 2000000, implicitDefEqProofs := false}) (disch := omega) only [↓reduceIte, go_sem, Int.reduceToNat, Nat.reduceAdd, Nat.reduceLeDiff, Nat.reduceEqDiff, Nat.reduceSub, Nat.reduceMul, reduceCtorEq, tq]
          refine ⟨((a + q, a + q * 2, a + q * 3), 0), ?_, by simp only; omega, by simp only; omega, by simp only; omega, by simp only; omega, by simp only; omega, by simp only; omega⟩
          have e1 : ((a + q : Nat) : Int) = (a : Int) + (q : Int) * 1 := by omega
          have e2 : ((a + q * 2 : Nat) : Int) = (a : Int) + (q : Int) * 2 := by omega
          have e3 : ((a + q * 3 : Nat) : Int) = (a : Int) + (q : Int) * 3 := by omega
          simp only [e1, e2, e3]
      · rintro ⟨⟨i, j, k⟩, n⟩ ⟨h1, h2, h3, h4, h5, h6⟩
        simp only at h1 h2 h3 h4 h5 h6
        simp (config := {maxSteps := 2000000, implicitDefEqProofs := false}) (disch := omega) only [↓reduceIte, go_sem, Int.reduceToNat, Nat.reduceAdd, Nat.reduceLeDiff, Nat.reduceEqDiff, Nat.reduceSub, Nat.reduceMul, reduceCtorEq]
        refine callO (C79 v d i j k d.size n _ _ _ rfl rfl rfl rfl (by omega) (by omega) (by omega)) ?_
        rintro _ _ ⟨n1, m1, rfl, rfl, g1⟩
        simp only [rowN]
        simp (config := {maxSteps := 2000000, implicitDefEqProofs := false}) (disch := omega) only [↓reduceIte, go_sem, Int.reduceToNat, Nat.reduceAdd, Nat.reduceLeDiff, Nat.reduceEqDiff, Nat.reduceSub, Nat.reduceMul, reduceCtorEq]
        exact ⟨(m1, n1), rfl, by simp only; omega, by simp only; omega⟩
    · simp (config := {maxSteps := 2000000, implicitDefEqProofs := false}) (disch := omega) only [↓reduceIte, go_sem, Int.reduceToNat, Nat.reduceAdd, Nat.reduceLeDiff, Nat.reduceEqDiff, Nat.reduceSub, Nat.reduceMul, reduceCtorEq, tq]
      refine ⟨(a + q * 2, 0), ?_, by simp only; omega, by simp only; omega⟩
      have e2 : ((a + q * 2 : Nat) : Int) = (a : Int) + (q : Int) * 2 := by omega
      simp only [e2]
  · rintro ⟨m, n⟩ ⟨h1, h2⟩
    simp only at h1 h2
    simp (config := {maxSteps := 2000000, implicitDefEqProofs := false}) (disch := omega) only [↓reduceIte, go_sem, Int.reduceToNat, Nat.reduceAdd, Nat.reduceLeDiff, Nat.reduceEqDiff, Nat.reduceSub, Nat.reduceMul, reduceCtorEq]
    refine ifE (fun g => ?_) (fun g => ?_)
    · simp (config := {maxSteps := 2000000, implicitDefEqProofs := false}) (disch := omega) only [↓reduceIte, go_sem, Int.reduceToNat, Nat.reduceAdd, Nat.reduceLeDiff, Nat.reduceEqDiff, Nat.reduceSub, Nat.reduceMul, reduceCtorEq]
      exact ⟨m, 1, rfl, h1, h2⟩
    · simp (config := {maxSteps := 2000000, implicitDefEqProofs := false}) (disch := omega) only [↓reduceIte, go_sem, Int.reduceToNat, Nat.reduceAdd, Nat.reduceLeDiff, Nat.reduceEqDiff, Nat.reduceSub, Nat.reduceMul, reduceCtorEq]
      refine ifE (fun g => ?_) (fun g => ?_)
      · simp (config := {maxSteps := 2000000, implicitDefEqProofs := false}) (disch := omega) only [↓reduceIte, go_sem, Int.reduceToNat, Nat.reduceAdd, Nat.reduceLeDiff, Nat.reduceEqDiff, Nat.reduceSub, Nat.reduceMul, reduceCtorEq]
        exact ⟨m, 2, rfl, h1, h2⟩
      · simp (config := {maxSteps := 2000000, implicitDefEqProofs := false}) (disch := omega) only [↓reduceIte, go_sem, Int.reduceToNat, Nat.reduceAdd, Nat.reduceLeDiff, Nat.reduceEqDiff, Nat.reduceSub, Nat.reduceMul, reduceCtorEq]
        exact ⟨m, 0, rfl, h1, h2⟩
def andN (y : Int) (m : Nat) : Nat := (BitVec.ofInt 64 y &&& BitVec.ofInt 64 ((m : Int) - 1)).toNat
theorem andN_le (y : Int) {m : Nat} (h0 : 0 < m) (hm : m < 1000) : andN y m < m := by
  unfold andN
  rw [BitVec.toNat_and]
  have h1 : (BitVec.ofInt 64 ((m : Int) - 1)).toNat = m - 1 := by
    rw [BitVec.toNat_ofInt]
    omega
  rw [h1]
  have := @Nat.and_le_right (BitVec.ofInt 64 y).toNat (m - 1)
  omega
theorem bAnd_n (y : Int) {m : Nat} (h0 : 0 < m) (hm : m < 1000) : bAnd .u64 y ((m : Int) - 1) = andN y m := by
  have h := andN_le y h0 hm
  unfold bAnd
  exact wrapU (by omega) (show ((andN y m : Nat) : Int) < _ by omega)
theorem C70 (v : Nat) (d : Array Seg) (a b L : Nat) (x y : Int) (ex : x = a) (ey : y = b) (eL : L = d.size) (hab : a < b) (hb : b ≤ d.size) (hl : d.size ≤ 120) :
    Ctr Try.prog 70 [.hs 0 v 0 L, .int .i64 x, .int .i64 y, cF] (rowD v d) (fun r o => ∃ d', r = [] ∧ o = rowD v d' ∧ Go.Sort.PermIn a b d d') := by
  subst ex ey eL
  have tq : ((b : Int) - a).tdiv 4 = (((b - a) / 4 : Nat) : Int) := by
    rw [Int.tdiv_eq_ediv_of_nonneg (by omega)]
    omega
  have tc : ((b : Int) - a) = ((b - a : Nat) : Int) := by omega
  have tq2 : (((b - a : Nat) : Int)).tdiv 4 = (((b - a) / 4 : Nat) : Int) := by rw [← tc]; exact tq
  have hlb := lenB_fact (b - a) (by omega) (by omega)
  have h64 := C64 (b - a) (by omega) (by omega)
  generalize 2 ^ (lenB (b - a)).toNat = m at hlb h64
  apply ctr_b A70_ok rfl (Nat.le_of_ble_eq_true rfl)
  unfold A70
  simp only [rowD, initL, Nat.reduceAdd]
  simp (config := {maxSteps := 2000000, implicitDefEqProofs := false}) (disch := omega) only [↓reduceIte, go_sem, Int.reduceToNat, Nat.reduceAdd, Nat.reduceLeDiff, Nat.reduceEqDiff, Nat.reduceSub, Nat.reduceMul, reduceCtorEq, tc, tq2]
  refine ifD (fun g => ?_) (fun g => ?_)
  · simp (config := {maxSteps := 2000000, implicitDefEqProofs := false}) (disch := omega) only [↓reduceIte, go_sem, Int.reduceToNat, Nat.reduceAdd, Nat.reduceLeDiff, Nat.reduceEqDiff, Nat.reduceSub, Nat.reduceMul, reduceCtorEq, tc, tq2, wrapU]
    refine callL h64 ?_
    simp (config := {maxSteps := 2000000, implicitDefEqProofs := false}) (disch := omega) only [↓reduceIte, go_sem, Int.reduceToNat, Nat.reduceAdd, Nat.reduceLeDiff, Nat.reduceEqDiff, Nat.reduceSub, Nat.reduceMul, reduceCtorEq, tc, tq2, wrapU]
    refine loopL (σ := (Nat × Int) × Array Seg) (fun s => ⟨[(0, .hs 0 v 0 d.size), (1, .int .i64 a), (8, .int .i64 (b - a : Nat)), (9, .ref 9 0), (10, .int .u64 m), (11, .int .i64 s.1.1)], [(0, .arr v 6 (s.2.toList.map encS)), (9, .pbox [.int .u64 s.1.2])]⟩)
      (fun s => a ≤ s.1.1 ∧ s.1.1 ≤ a + (b - a) / 4 * 2 + 2 ∧ Go.Sort.PermIn a b d s.2) (fun s => a + (b - a) / 4 * 2 + 2 - s.1.1) ((a + (b - a) / 4 * 2 - 1, (b - a : Nat)), d) ?_ ⟨by simp only; omega, by simp only; omega, Go.Sort.permIn_refl _ _ _⟩ ?_
    · simp (config := {maxSteps := 2000000, implicitDefEqProofs := false}) (disch := omega) only [↓reduceIte, go_sem, Int.reduceToNat, Nat.reduceAdd, Nat.reduceLeDiff, Nat.reduceEqDiff, Nat.reduceSub, Nat.reduceMul, reduceCtorEq, tc, tq2, wrapU]
      have : ((a + (b - a) / 4 * 2 - 1 : Nat) : Int) = (a : Int) + (((b - a) / 4 : Nat) : Int) * 2 - 1 := by omega
      simp only [this]
    rintro ⟨⟨i, r⟩, d1⟩ ⟨h1, h2, h3⟩
    simp only at h1 h2 h3
    have hsz := h3.1
    simp (config := {maxSteps := 2000000, implicitDefEqProofs := false}) (disch := omega) only [↓reduceIte, go_sem, Int.reduceToNat, Nat.reduceAdd, Nat.reduceLeDiff, Nat.reduceEqDiff, Nat.reduceSub, Nat.reduceMul, reduceCtorEq, tq2]
    refine ifD (fun g2 => ?_) (fun g2 => ?_)
    · simp (config := {maxSteps := 2000000, implicitDefEqProofs := false}) (disch := omega) only [↓reduceIte, go_sem, Int.reduceToNat, Nat.reduceAdd, Nat.reduceLeDiff, Nat.reduceEqDiff, Nat.reduceSub, Nat.reduceMul, reduceCtorEq, tq2]
      refine callO (C65 r) ?_
      rintro _ _ ⟨y, rfl, rfl⟩
      have hand : bAnd .u64 y ((m : Int) - 1) = andN y m := bAnd_n y (by omega) (by omega)
      have han := andN_le y (m := m) (by omega) (by omega)
      simp (config := {maxSteps := 2000000, implicitDefEqProofs := false}) (disch := omega) only [↓reduceIte, go_sem, Int.reduceToNat, Nat.reduceAdd, Nat.reduceLeDiff, Nat.reduceEqDiff, Nat.reduceSub, Nat.reduceMul, reduceCtorEq, tq2, wrapU, hand]
      refine ifD (fun g3 => ?_) (fun g3 => ?_)
      · have t1 : ((a : Int) + ((andN y m : Int) - ((b - a : Nat) : Int))).toNat = a + (andN y m - (b - a)) := by omega
        have c0 := rdD (d := d1) (show i < d1.size by omega)
        have c1 := rdD (d := d1) (show a + (andN y m - (b - a)) < d1.size by omega)
        have hw := wrD (d := d1) (i := i) (j := a + (andN y m - (b - a))) (by omega) (by omega)
        have e1 := hw.1
        have e2 := hw.2
        simp only [encS] at c0 c1 e1 e2
        simp (config := {maxSteps := 2000000, implicitDefEqProofs := false}) (disch := omega) only [↓reduceIte, go_sem, Int.reduceToNat, Nat.reduceAdd, Nat.reduceLeDiff, Nat.reduceEqDiff, Nat.reduceSub, Nat.reduceMul, reduceCtorEq, tq2, wrapU, hand, t1, c0, c1, e1, e2]
        refine accL (by kernel_rfl) ?_
        simp (config := {maxSteps := 2000000, implicitDefEqProofs := false}) (disch := omega) only [↓reduceIte, go_sem, Int.reduceToNat, Nat.reduceAdd, Nat.reduceLeDiff, Nat.reduceEqDiff, Nat.reduceSub, Nat.reduceMul, reduceCtorEq, tq2, wrapU, hand, t1, c0, c1, e1, e2]
        exact ⟨((i + 1, y), Go.Sort.swp d1 i (a + (andN y m - (b - a)))), by simp, ⟨by simp only; omega, by simp only; omega, Go.Sort.permIn_trans _ _ _ a b h3 (Go.Sort.swp_permIn d1 a b i (a + (andN y m - (b - a))) h1 (by omega) (by omega) (by omega) (by omega))⟩, by simp only; omega⟩
      · have t1 : ((a : Int) + (andN y m : Int)).toNat = a + andN y m := by omega
        have c0 := rdD (d := d1) (show i < d1.size by omega)
        have c1 := rdD (d := d1) (show a + andN y m < d1.size by omega)
        have hw := wrD (d := d1) (i := i) (j := a + andN y m) (by omega) (by omega)
        have e1 := hw.1
        have e2 := hw.2
        simp only [encS] at c0 c1 e1 e2
        simp (config := {maxSteps := 2000000, implicitDefEqProofs := false}) (disch := omega) only [↓reduceIte, go_sem, Int.reduceToNat, Nat.reduceAdd, Nat.reduceLeDiff, Nat.reduceEqDiff, Nat.reduceSub, Nat.reduceMul, reduceCtorEq, tq2, wrapU, hand, t1, c0, c1, e1, e2]
        refine accL (by kernel_rfl) ?_
        simp (config := {maxSteps := 2000000, implicitDefEqProofs := false}) (disch := omega) only [↓reduceIte, go_sem, Int.reduceToNat, Nat.reduceAdd, Nat.reduceLeDiff, Nat.reduceEqDiff, Nat.reduceSub, Nat.reduceMul, reduceCtorEq, tq2, wrapU, hand, t1, c0, c1, e1, e2]
        exact ⟨((i + 1, y), Go.Sort.swp d1 i (a + andN y m)), by simp, ⟨by simp only; omega, by simp only; omega, Go.Sort.permIn_trans _ _ _ a b h3 (Go.Sort.swp_permIn d1 a b i (a + andN y m) h1 (by omega) (by omega) (by omega) (by omega))⟩, by simp only; omega⟩
    · simp (config := {maxSteps := 2000000, implicitDefEqProofs := false}) (disch := omega) only [↓reduceIte, go_sem, Int.reduceToNat, Nat.reduceAdd, Nat.reduceLeDiff, Nat.reduceEqDiff, Nat.reduceSub, Nat.reduceMul, reduceCtorEq, tq2]
      exact ⟨d1, rfl, h3⟩
  · simp (config := {maxSteps := 2000000, implicitDefEqProofs := false}) (disch := omega) only [↓reduceIte, go_sem, Int.reduceToNat, Nat.reduceAdd, Nat.reduceLeDiff, Nat.reduceEqDiff, Nat.reduceSub, Nat.reduceMul, reduceCtorEq, tc]
    exact ⟨d, rfl, Go.Sort.permIn_refl _ _ _⟩

end Go.Proofs.Ytpmabjkjolhilaa.X
namespace Go.Proofs.Ytpmabjkjolhilaa.X
open Go Go.AM Go.Proofs
attribute [local go_sem ↓] w_skip w_lbl w_ops w_draw w_pre w_post w_alt w_seq w_cond w_block w_join w_loop w_exit w_ret w_scope w_rfunc l_nil l_cons th_n th_e th_r bk_n bk_r bk_e t_nil t_it t_call i_nil i_one i_grp s_nil s_cons c_call e_mv e_nil e_frz o_mov o_bin o_eq o_un o_conv o_len o_slen o_idx o_aix o_fad o_load o_store o_boxp o_boxo o_boxm o_alloc o_alloca o_nilarr o_build o_bslp o_bslo o_slc o_sslc o_slc3 o_sidx o_mkfn o_ext o_pick o_callf o_callb o_appd o_clear o_mxn o_field o_nilc o_make o_buildm o_boxg o_mkif o_tass o_eqs o_callo k_int k_str k_bool k_grb k_grt k_some k_none k_arr k_lens k_lenf k_lenh k_idxs k_idxf k_idxh k_ld k_loadp k_loadr k_loade k_storer k_storee k_oin k_ois k_slcs k_slcf k_slch k_slc3s k_slc3f k_slc3h k_app2 k_apps k_appf k_apph k_cals k_cald k_cali k_cnb k_cna k_esn k_esc k_efn k_efc k_esh b_add b_sub b_mul b_quo b_rem b_and b_or b_xor b_andNot b_eql b_neq b_lss b_leq b_gtr b_geq b_shl b_shr b_seq b_sne b_slt b_sad q_bool q_str q_nil q_nilf u_not u_neg u_xor f_ret f_nor v_r v_c v_reg v_ob v_set v_put v_so v_sn v_pn v_pc g_nil d_nil p_nil m_mv m_fr z_nil z_cons z_an z_ac g_cons d_cons p_cons y_mov y_bin y_eq y_un y_conv y_len y_slen y_idx y_aix y_fad y_load y_store y_boxp y_boxo y_boxm y_alloc y_alloca y_nilarr y_build y_bslp y_bslo y_slc y_sslc y_slc3 y_sidx y_mkfn y_ext y_pick y_callf y_callb y_appd y_clear y_mxn y_field y_nilc y_make y_buildm y_boxg y_mkif y_tass y_eqs y_callo nb_if
attribute [local go_sem] VL_mk VL2_mk If_t If_f If_not If_and If_or If_dt If_df If_et If_ef If_ne Ck_t Ck_h Opt_s ld_a ld_c renL ren keepR renA idxM invL getObs mapOb renOb allNone putAll fzR fzO fz fzL fzOb frzOk upFrom mapR resOne resA cellsOf oneA oneAL isP isPL okSt kRows kParts fillA setAt bor bor0 bor1 bor2 borC borI key0 key1 key2 keysA fillM cellsM cellM unif ptrA ifOk kPartsM getObsM allNoneM zipU scal0 scalar eqC evNil evNilF List.map_cons List.map_nil List.cons_append List.nil_append List.append_nil List.drop_zero List.drop_succ_cons List.drop_nil List.take_succ_cons List.take_zero List.take_nil List.length_cons List.length_nil List.length_map List.getElem?_map Option.map_some Option.map_none Int.toNat_natCast Int.toNat_zero Int.toNat_one Int.natCast_nonneg List.flatMap_cons List.flatMap_nil List.all_cons List.all_nil Bool.and_true Bool.true_and Bool.and_false Bool.false_and Bool.not_true Bool.not_false beq_self_eq_true nb_self all_nil List.forall_mem_cons tk_map tk_app bs_self bs_dec bq_t bq_f Bool.not_not decide_true decide_false Bool.not_not and_self and_true true_and eq_self List.reverse_cons List.reverse_nil List.getElem?_cons_zero List.getElem?_cons_succ cond_true cond_false List.set_cons_zero List.set_cons_succ Nat.zero_add Nat.add_zero if_true if_false ite_true ite_false implies_true wrap64 wrap8
set_option linter.unusedVariables false
set_option linter.unusedSimpArgs false
set_option maxRecDepth 10000
set_option maxHeartbeats 8000000
theorem C61 : ∀ (N v : Nat) (d : Array Seg) (a b L : Nat) (x y z : Int), b - a = N → L = d.size → x = a → y = b → a ≤ b → b ≤ d.size → d.size ≤ 120 → Go.Sort.Below ltS a b d →
    Ctr Try.prog 61 [.hs 0 v 0 L, .int .i64 x, .int .i64 y, .int .i64 z, cF] (rowD v d) (fun r o => ∃ d', r = [] ∧ o = rowD v d' ∧ Go.Sort.PermIn a b d d' ∧ Go.Sort.SortedIn ltS a b d') := by
  intro N
  induction N using Nat.strongRecOn with
  | ind N ih =>
  intro v d a b L x y z hN eL ex ey hab hb hl hB
  subst eL ex ey
  apply ctr_b A61_ok rfl (Nat.le_of_ble_eq_true rfl)
  unfold A61
  simp only [rowD, initL, Nat.reduceAdd]
  simp (config := {maxSteps := 2000000, implicitDefEqProofs := false}) (disch := omega) only [↓reduceIte, go_sem, Int.reduceToNat, Nat.reduceAdd, Nat.reduceLeDiff, Nat.reduceEqDiff, Nat.reduceSub, Nat.reduceMul, reduceCtorEq]
  refine loopL (σ := (((Nat × Nat) × Int) × (Bool × Bool)) × Array Seg) (fun s => ⟨[(0, .hs 0 v 0 d.size), (1, .int .i64 s.1.1.1.1), (2, .int .i64 s.1.1.1.2), (3, .int .i64 s.1.1.2), (4, cF), (10, .bool s.1.2.1), (11, .bool s.1.2.2)], [(0, .arr v 6 (s.2.toList.map encS))]⟩)
    (fun s => s.1.1.1.1 ≤ s.1.1.1.2 ∧ s.1.1.1.2 ≤ d.size ∧ s.1.1.1.2 - s.1.1.1.1 ≤ b - a ∧ s.2.size = d.size ∧ Go.Sort.Below ltS s.1.1.1.1 s.1.1.1.2 s.2 ∧ ∀ R, Go.Sort.PermIn s.1.1.1.1 s.1.1.1.2 s.2 R → Go.Sort.SortedIn ltS s.1.1.1.1 s.1.1.1.2 R → Go.Sort.PermIn a b d R ∧ Go.Sort.SortedIn ltS a b R)
    (fun s => s.1.1.1.2 - s.1.1.1.1) ((((a, b), z), (true, true)), d) (by simp (config := {maxSteps := 2000000, implicitDefEqProofs := false}) (disch := omega) only [↓reduceIte, go_sem, Int.reduceToNat, Nat.reduceAdd, Nat.reduceLeDiff, Nat.reduceEqDiff, Nat.reduceSub, Nat.reduceMul, reduceCtorEq]) ⟨hab, hb, Nat.le_refl _, rfl, hB, fun R h1 h2 => ⟨h1, h2⟩⟩ ?_
  rintro ⟨⟨⟨⟨a1, b1⟩, lim⟩, ⟨wb, wp⟩⟩, d1⟩ ⟨h1, h2, h3, h4, h5, h6⟩
  simp only at h1 h2 h3 h4 h5 h6
  have tc : ((b1 : Int) - a1) = ((b1 - a1 : Nat) : Int) := by omega
  simp (config := {maxSteps := 2000000, implicitDefEqProofs := false}) (disch := omega) only [↓reduceIte, go_sem, Int.reduceToNat, Nat.reduceAdd, Nat.reduceLeDiff, Nat.reduceEqDiff, Nat.reduceSub, Nat.reduceMul, reduceCtorEq, tc]
  refine ifD (fun g => ?_) (fun g => ?_)
  · simp (config := {maxSteps := 2000000, implicitDefEqProofs := false}) (disch := omega) only [↓reduceIte, go_sem, Int.reduceToNat, Nat.reduceAdd, Nat.reduceLeDiff, Nat.reduceEqDiff, Nat.reduceSub, Nat.reduceMul, reduceCtorEq, tc]
    refine callO (C68 v d1 a1 b1 d.size _ _ rfl rfl h4.symm (by omega) (by omega) (by omega)) ?_
    rintro _ _ ⟨rfl, rfl⟩
    simp only [rowD]
    simp (config := {maxSteps := 2000000, implicitDefEqProofs := false}) (disch := omega) only [↓reduceIte, go_sem, Int.reduceToNat, Nat.reduceAdd, Nat.reduceLeDiff, Nat.reduceEqDiff, Nat.reduceSub, Nat.reduceMul, reduceCtorEq]
    have hi := Go.Sort.insertionSort_holds (lt := ltS) swoS d1 a1 b1 h1 (by omega)
    have hk := h6 _ hi.1 hi.2
    exact ⟨_, rfl, hk.1, hk.2⟩
  · have hlt : a1 < b1 := by omega
    simp (config := {maxSteps := 2000000, implicitDefEqProofs := false}) (disch := omega) only [↓reduceIte, go_sem, Int.reduceToNat, Nat.reduceAdd, Nat.reduceLeDiff, Nat.reduceEqDiff, Nat.reduceSub, Nat.reduceMul, reduceCtorEq, tc]
    refine ifE (fun g2 => ?_) (fun g2 => ?_)
    · simp (config := {maxSteps := 2000000, implicitDefEqProofs := false}) (disch := omega) only [↓reduceIte, go_sem, Int.reduceToNat, Nat.reduceAdd, Nat.reduceLeDiff, Nat.reduceEqDiff, Nat.reduceSub, Nat.reduceMul, reduceCtorEq, tc]
      refine callO (C69 v d1 a1 b1 d.size _ _ rfl rfl h4.symm hlt (by omega) (by omega)) ?_
      rintro _ _ ⟨rfl, rfl⟩
      simp only [rowD]
      simp (config := {maxSteps := 2000000, implicitDefEqProofs := false}) (disch := omega) only [↓reduceIte, go_sem, Int.reduceToNat, Nat.reduceAdd, Nat.reduceLeDiff, Nat.reduceEqDiff, Nat.reduceSub, Nat.reduceMul, reduceCtorEq]
      have hi := Go.Sort.heapSort_holds (lt := ltS) swoS d1 a1 b1 h1 (by omega)
      have hk := h6 _ hi.1 hi.2
      exact ⟨_, rfl, hk.1, hk.2⟩
    · simp (config := {maxSteps := 2000000, implicitDefEqProofs := false}) (disch := omega) only [↓reduceIte, go_sem, Int.reduceToNat, Nat.reduceAdd, Nat.reduceLeDiff, Nat.reduceEqDiff, Nat.reduceSub, Nat.reduceMul, reduceCtorEq, tc]
      refine joinL (σ := Int × Array Seg) (fun s => ⟨[(0, .hs 0 v 0 d.size), (1, .int .i64 a1), (2, .int .i64 b1), (3, .int .i64 s.1), (4, cF), (10, .bool wb), (11, .bool wp), (12, .int .i64 (b1 - a1 : Nat))], [(0, .arr v 6 (s.2.toList.map encS))]⟩) (fun s => Go.Sort.PermIn a1 b1 d1 s.2) ?_ ?_
      · simp (config := {maxSteps := 2000000, implicitDefEqProofs := false}) (disch := omega) only [↓reduceIte, go_sem, Int.reduceToNat, Nat.reduceAdd, Nat.reduceLeDiff, Nat.reduceEqDiff, Nat.reduceSub, Nat.reduceMul, reduceCtorEq, tc]
        refine ifB (fun w => ?_) (fun w => ?_)
        · simp (config := {maxSteps := 2000000, implicitDefEqProofs := false}) (disch := omega) only [↓reduceIte, go_sem, Int.reduceToNat, Nat.reduceAdd, Nat.reduceLeDiff, Nat.reduceEqDiff, Nat.reduceSub, Nat.reduceMul, reduceCtorEq, tc]
          exact ⟨(lim, d1), rfl, Go.Sort.permIn_refl _ _ _⟩
        · simp (config := {maxSteps := 2000000, implicitDefEqProofs := false}) (disch := omega) only [↓reduceIte, go_sem, Int.reduceToNat, Nat.reduceAdd, Nat.reduceLeDiff, Nat.reduceEqDiff, Nat.reduceSub, Nat.reduceMul, reduceCtorEq, tc]
          refine callO (C70 v d1 a1 b1 d.size _ _ rfl rfl h4.symm hlt (by omega) (by omega)) ?_
          rintro _ _ ⟨d2, rfl, rfl, hp⟩
          simp only [rowD]
          simp (config := {maxSteps := 2000000, implicitDefEqProofs := false}) (disch := omega) only [↓reduceIte, go_sem, Int.reduceToNat, Nat.reduceAdd, Nat.reduceLeDiff, Nat.reduceEqDiff, Nat.reduceSub, Nat.reduceMul, reduceCtorEq, tc]
          exact ⟨(_, d2), rfl, hp⟩
      rintro ⟨lim2, d2⟩ hp2
      simp only at hp2
      have hs2 : d2.size = d.size := hp2.1.trans h4
      simp (config := {maxSteps := 2000000, implicitDefEqProofs := false}) (disch := omega) only [↓reduceIte, go_sem, Int.reduceToNat, Nat.reduceAdd, Nat.reduceLeDiff, Nat.reduceEqDiff, Nat.reduceSub, Nat.reduceMul, reduceCtorEq, tc]
      refine callO (C71 v d2 a1 b1 d.size _ _ rfl rfl hs2.symm hlt (by omega) (by omega)) ?_
      rintro _ _ ⟨p, hint, rfl, rfl, p1, p2⟩
      simp only [rowD]
      simp (config := {maxSteps := 2000000, implicitDefEqProofs := false}) (disch := omega) only [↓reduceIte, go_sem, Int.reduceToNat, Nat.reduceAdd, Nat.reduceLeDiff, Nat.reduceEqDiff, Nat.reduceSub, Nat.reduceMul, reduceCtorEq, tc]
      refine joinL (σ := (Nat × Int) × Array Seg) (fun s => ⟨[(0, .hs 0 v 0 d.size), (1, .int .i64 a1), (2, .int .i64 b1), (3, .int .i64 lim2), (4, cF), (10, .bool wb), (11, .bool wp), (12, .int .i64 (b1 - a1 : Nat)), (13, .int .i64 s.1.1), (14, .int .i64 s.1.2)], [(0, .arr v 6 (s.2.toList.map encS))]⟩) (fun s => a1 ≤ s.1.1 ∧ s.1.1 < b1 ∧ Go.Sort.PermIn a1 b1 d2 s.2) ?_ ?_
      · simp (config := {maxSteps := 2000000, implicitDefEqProofs := false}) (disch := omega) only [↓reduceIte, go_sem, Int.reduceToNat, Nat.reduceAdd, Nat.reduceLeDiff, Nat.reduceEqDiff, Nat.reduceSub, Nat.reduceMul, reduceCtorEq, tc]
        refine ifE (fun g3 => ?_) (fun g3 => ?_)
        · simp (config := {maxSteps := 2000000, implicitDefEqProofs := false}) (disch := omega) only [↓reduceIte, go_sem, Int.reduceToNat, Nat.reduceAdd, Nat.reduceLeDiff, Nat.reduceEqDiff, Nat.reduceSub, Nat.reduceMul, reduceCtorEq, tc]
          refine callO (C72 v d2 a1 b1 d.size _ _ rfl rfl hs2.symm hlt (by omega) (by omega)) ?_
          rintro _ _ ⟨rfl, rfl⟩
          simp only [rowD]
          simp (config := {maxSteps := 2000000, implicitDefEqProofs := false}) (disch := omega) only [↓reduceIte, go_sem, Int.reduceToNat, Nat.reduceAdd, Nat.reduceLeDiff, Nat.reduceEqDiff, Nat.reduceSub, Nat.reduceMul, reduceCtorEq]
          refine ⟨(((b1 - 1) - (p - a1), 1), Go.Sort.reverseRange d2 a1 b1), ?_, by simp only; omega, by simp only; omega, Go.Sort.reverseRange_holds d2 a1 b1 h1 (by omega)⟩
          have : (((b1 - 1) - (p - a1) : Nat) : Int) = (b1 : Int) - 1 - ((p : Int) - a1) := by omega
          simp only [this]
        · simp (config := {maxSteps := 2000000, implicitDefEqProofs := false}) (disch := omega) only [↓reduceIte, go_sem, Int.reduceToNat, Nat.reduceAdd, Nat.reduceLeDiff, Nat.reduceEqDiff, Nat.reduceSub, Nat.reduceMul, reduceCtorEq, tc]
          exact ⟨((p, hint), d2), rfl, p1, p2, Go.Sort.permIn_refl _ _ _⟩
      clear p1 p2
      rintro ⟨⟨p, hint⟩, d3⟩ ⟨p1, p2, hp3⟩
      simp only at p1 p2 hp3
      have hp13 := Go.Sort.permIn_trans _ _ _ a1 b1 hp2 hp3
      have hs3 : d3.size = d.size := hp13.1.trans h4
      have hB3 := h5.perm (by omega) hp13
      clear hp2 hp3 hs2
      simp (config := {maxSteps := 2000000, implicitDefEqProofs := false}) (disch := omega) only [↓reduceIte, go_sem, Int.reduceToNat, Nat.reduceAdd, Nat.reduceLeDiff, Nat.reduceEqDiff, Nat.reduceSub, Nat.reduceMul, reduceCtorEq]
      refine joinL (σ := Array Seg) (fun s => ⟨[(0, .hs 0 v 0 d.size), (1, .int .i64 a1), (2, .int .i64 b1), (3, .int .i64 lim2), (4, cF), (10, .bool wb), (11, .bool wp), (12, .int .i64 (b1 - a1 : Nat)), (13, .int .i64 p)], [(0, .arr v 6 (s.toList.map encS))]⟩) (fun s => Go.Sort.PermIn a1 b1 d3 s) ?_ ?_
      · simp (config := {maxSteps := 2000000, implicitDefEqProofs := false}) (disch := omega) only [↓reduceIte, go_sem, Int.reduceToNat, Nat.reduceAdd, Nat.reduceLeDiff, Nat.reduceEqDiff, Nat.reduceSub, Nat.reduceMul, reduceCtorEq]
        have pins := C73 v d3 a1 b1 d.size _ _ rfl rfl hs3.symm hlt (by omega) (by omega)
        have hpi := Go.Sort.partialInsertionSort_holds (lt := ltS) swoS d3 a1 b1 hlt (by omega) hB3
        generalize Go.Sort.partialInsertionSort ltS d3 a1 b1 = PI at pins hpi
        refine ifB (fun w1 => ?_) (fun w1 => ?_)
        · simp (config := {maxSteps := 2000000, implicitDefEqProofs := false}) (disch := omega) only [↓reduceIte, go_sem, Int.reduceToNat, Nat.reduceAdd, Nat.reduceLeDiff, Nat.reduceEqDiff, Nat.reduceSub, Nat.reduceMul, reduceCtorEq]
          refine ifB (fun w2 => ?_) (fun w2 => ?_)
          · simp (config := {maxSteps := 2000000, implicitDefEqProofs := false}) (disch := omega) only [↓reduceIte, go_sem, Int.reduceToNat, Nat.reduceAdd, Nat.reduceLeDiff, Nat.reduceEqDiff, Nat.reduceSub, Nat.reduceMul, reduceCtorEq]
            refine ifE (fun g3 => ?_) (fun g3 => ?_)
            · simp (config := {maxSteps := 2000000, implicitDefEqProofs := false}) (disch := omega) only [↓reduceIte, go_sem, Int.reduceToNat, Nat.reduceAdd, Nat.reduceLeDiff, Nat.reduceEqDiff, Nat.reduceSub, Nat.reduceMul, reduceCtorEq]
              refine callO pins ?_
              rintro _ _ ⟨rfl, rfl⟩
              simp only [rowD]
              simp (config := {maxSteps := 2000000, implicitDefEqProofs := false}) (disch := omega) only [↓reduceIte, go_sem, Int.reduceToNat, Nat.reduceAdd, Nat.reduceLeDiff, Nat.reduceEqDiff, Nat.reduceSub, Nat.reduceMul, reduceCtorEq]
              refine ifB (fun w3 => ?_) (fun w3 => ?_)
              · simp (config := {maxSteps := 2000000, implicitDefEqProofs := false}) (disch := omega) only [↓reduceIte, go_sem, Int.reduceToNat, Nat.reduceAdd, Nat.reduceLeDiff, Nat.reduceEqDiff, Nat.reduceSub, Nat.reduceMul, reduceCtorEq]
                have hk := h6 _ (Go.Sort.permIn_trans _ _ _ a1 b1 hp13 hpi.1) (hpi.2 w3)
                exact ⟨_, rfl, hk.1, hk.2⟩
              · simp (config := {maxSteps := 2000000, implicitDefEqProofs := false}) (disch := omega) only [↓reduceIte, go_sem, Int.reduceToNat, Nat.reduceAdd, Nat.reduceLeDiff, Nat.reduceEqDiff, Nat.reduceSub, Nat.reduceMul, reduceCtorEq]
                exact ⟨PI.1, rfl, hpi.1⟩
            · simp (config := {maxSteps := 2000000, implicitDefEqProofs := false}) (disch := omega) only [↓reduceIte, go_sem, Int.reduceToNat, Nat.reduceAdd, Nat.reduceLeDiff, Nat.reduceEqDiff, Nat.reduceSub, Nat.reduceMul, reduceCtorEq]
              exact ⟨d3, rfl, Go.Sort.permIn_refl _ _ _⟩
          · simp (config := {maxSteps := 2000000, implicitDefEqProofs := false}) (disch := omega) only [↓reduceIte, go_sem, Int.reduceToNat, Nat.reduceAdd, Nat.reduceLeDiff, Nat.reduceEqDiff, Nat.reduceSub, Nat.reduceMul, reduceCtorEq]
            exact ⟨d3, rfl, Go.Sort.permIn_refl _ _ _⟩
        · simp (config := {maxSteps := 2000000, implicitDefEqProofs := false}) (disch := omega) only [↓reduceIte, go_sem, Int.reduceToNat, Nat.reduceAdd, Nat.reduceLeDiff, Nat.reduceEqDiff, Nat.reduceSub, Nat.reduceMul, reduceCtorEq]
          exact ⟨d3, rfl, Go.Sort.permIn_refl _ _ _⟩
      rintro d4 hp4
      have hp14 := Go.Sort.permIn_trans _ _ _ a1 b1 hp13 hp4
      have hs4 : d4.size = d.size := hp14.1.trans h4
      have hB4 := h5.perm (by omega) hp14
      clear hp4 hp13 hB3 hs3
      simp (config := {maxSteps := 2000000, implicitDefEqProofs := false}) (disch := omega) only [↓reduceIte, go_sem, Int.reduceToNat, Nat.reduceAdd, Nat.reduceLeDiff, Nat.reduceEqDiff, Nat.reduceSub, Nat.reduceMul, reduceCtorEq]
      refine joinL (σ := Unit) (fun s => ⟨[(0, .hs 0 v 0 d.size), (1, .int .i64 a1), (2, .int .i64 b1), (3, .int .i64 lim2), (4, cF), (12, .int .i64 (b1 - a1 : Nat)), (13, .int .i64 p)], [(0, .arr v 6 (d4.toList.map encS))]⟩) (fun s => True) ?_ ?_
      · simp (config := {maxSteps := 2000000, implicitDefEqProofs := false}) (disch := omega) only [↓reduceIte, go_sem, Int.reduceToNat, Nat.reduceAdd, Nat.reduceLeDiff, Nat.reduceEqDiff, Nat.reduceSub, Nat.reduceMul, reduceCtorEq]
        refine ifD (fun g3 => ?_) (fun g3 => ?_)
        · have t1 : ((a1 : Int) - 1).toNat = a1 - 1 := by omega
          have c0 := rdD (d := d4) (show a1 - 1 < d4.size by omega)
          have c1 := rdD (d := d4) (show p < d4.size by omega)
          simp only [encS] at c0 c1
          simp (config := {maxSteps := 2000000, implicitDefEqProofs := false}) (disch := omega) only [↓reduceIte, go_sem, Int.reduceToNat, Nat.reduceAdd, Nat.reduceLeDiff, Nat.reduceEqDiff, Nat.reduceSub, Nat.reduceMul, reduceCtorEq, t1, c0, c1]
          refine callL (C38 d4[a1 - 1]! d4[p]!) ?_
          simp (config := {maxSteps := 2000000, implicitDefEqProofs := false}) (disch := omega) only [↓reduceIte, go_sem, Int.reduceToNat, Nat.reduceAdd, Nat.reduceLeDiff, Nat.reduceEqDiff, Nat.reduceSub, Nat.reduceMul, reduceCtorEq]
          refine accL (by kernel_rfl) ?_
          simp (config := {maxSteps := 2000000, implicitDefEqProofs := false}) (disch := omega) only [↓reduceIte, go_sem, Int.reduceToNat, Nat.reduceAdd, Nat.reduceLeDiff, Nat.reduceEqDiff, Nat.reduceSub, Nat.reduceMul, reduceCtorEq]
          refine ifD (fun g4 => ?_) (fun g4 => ?_)
          · simp (config := {maxSteps := 2000000, implicitDefEqProofs := false}) (disch := omega) only [↓reduceIte, go_sem, Int.reduceToNat, Nat.reduceAdd, Nat.reduceLeDiff, Nat.reduceEqDiff, Nat.reduceSub, Nat.reduceMul, reduceCtorEq]
            exact ⟨(), trivial⟩
          · simp (config := {maxSteps := 2000000, implicitDefEqProofs := false}) (disch := omega) only [↓reduceIte, go_sem, Int.reduceToNat, Nat.reduceAdd, Nat.reduceLeDiff, Nat.reduceEqDiff, Nat.reduceSub, Nat.reduceMul, reduceCtorEq]
            have hre := Go.Sort.round_eq (lt := ltS) swoS (Go.Sort.partitionEqual_holds ltS) (d3 := d4) (a := a1) (b := b1) (pivot := p) (by omega) p1 p2 (by omega) hB4 (by simpa [ltS] using g4) (mid := (Go.Sort.partitionEqual ltS d4 a1 b1 p).1) (d4 := (Go.Sort.partitionEqual ltS d4 a1 b1 p).2) rfl
            refine callO (C74 v d4 a1 b1 p d.size _ _ _ rfl rfl rfl hs4.symm hlt (by omega) (by omega) (by omega)) ?_
            rintro _ _ ⟨rfl, rfl⟩
            simp only [rowD]
            simp (config := {maxSteps := 2000000, implicitDefEqProofs := false}) (disch := omega) only [↓reduceIte, go_sem, Int.reduceToNat, Nat.reduceAdd, Nat.reduceLeDiff, Nat.reduceEqDiff, Nat.reduceSub, Nat.reduceMul, reduceCtorEq]
            generalize (Go.Sort.partitionEqual ltS d4 a1 b1 p).1 = mid at hre
            generalize (Go.Sort.partitionEqual ltS d4 a1 b1 p).2 = d5 at hre
            exact ⟨((((mid, b1), lim2), (wb, wp)), d5), rfl, ⟨hre.2.1, h2, by simp only; omega, hre.2.2.1.trans hs4, hre.2.2.2.1, fun R k1 k2 => by have q := hre.2.2.2.2 R k1 k2; exact h6 R (Go.Sort.permIn_trans _ _ _ a1 b1 hp14 q.1) q.2⟩, by simp only; omega⟩
        · simp (config := {maxSteps := 2000000, implicitDefEqProofs := false}) (disch := omega) only [↓reduceIte, go_sem, Int.reduceToNat, Nat.reduceAdd, Nat.reduceLeDiff, Nat.reduceEqDiff, Nat.reduceSub, Nat.reduceMul, reduceCtorEq]
          refine accL (by kernel_rfl) ?_
          simp (config := {maxSteps := 2000000, implicitDefEqProofs := false}) (disch := omega) only [↓reduceIte, go_sem, Int.reduceToNat, Nat.reduceAdd, Nat.reduceLeDiff, Nat.reduceEqDiff, Nat.reduceSub, Nat.reduceMul, reduceCtorEq]
          exact ⟨(), trivial⟩
      rintro _ _
      simp (config := {maxSteps := 2000000, implicitDefEqProofs := false}) (disch := omega) only [↓reduceIte, go_sem, Int.reduceToNat, Nat.reduceAdd, Nat.reduceLeDiff, Nat.reduceEqDiff, Nat.reduceSub, Nat.reduceMul, reduceCtorEq]
      have hre := Go.Sort.round_part (lt := ltS) swoS (Go.Sort.partition_holds ltS) (d3 := d4) (a := a1) (b := b1) (pivot := p) p1 p2 (by omega) hB4 (mid := (Go.Sort.partition ltS d4 a1 b1 p).1) (ap := (Go.Sort.partition ltS d4 a1 b1 p).2.1) (d4 := (Go.Sort.partition ltS d4 a1 b1 p).2.2) rfl
      refine callO (C75 v d4 a1 b1 p d.size _ _ _ rfl rfl rfl hs4.symm hlt (by omega) (by omega) (by omega)) ?_
      rintro _ _ ⟨rfl, rfl⟩
      simp only [rowD]
      generalize (Go.Sort.partition ltS d4 a1 b1 p).1 = mid at hre
      generalize (Go.Sort.partition ltS d4 a1 b1 p).2.1 = ap at hre
      generalize (Go.Sort.partition ltS d4 a1 b1 p).2.2 = d5 at hre
      have r1 := hre.1
      have r2 := hre.2.1
      have r3 := hre.2.2.1
      have r4 := hre.2.2.2.1
      have r5 := hre.2.2.2.2.1
      have r6 := hre.2.2.2.2.2.1
      have r7 := hre.2.2.2.2.2.2
      clear hre
      have hs5 : d5.size = d.size := r3.trans hs4
      have fin : ∀ R, Go.Sort.PermIn a1 b1 d4 R ∧ Go.Sort.SortedIn ltS a1 b1 R → Go.Sort.PermIn a b d R ∧ Go.Sort.SortedIn ltS a b R := fun R q => h6 R (Go.Sort.permIn_trans _ _ _ a1 b1 hp14 q.1) q.2
      simp (config := {maxSteps := 2000000, implicitDefEqProofs := false}) (disch := omega) only [↓reduceIte, go_sem, Int.reduceToNat, Nat.reduceAdd, Nat.reduceLeDiff, Nat.reduceEqDiff, Nat.reduceSub, Nat.reduceMul, reduceCtorEq]
      refine ifD (fun g3 => ?_) (fun g3 => ?_)
      · simp (config := {maxSteps := 2000000, implicitDefEqProofs := false}) (disch := omega) only [↓reduceIte, go_sem, Int.reduceToNat, Nat.reduceAdd, Nat.reduceLeDiff, Nat.reduceEqDiff, Nat.reduceSub, Nat.reduceMul, reduceCtorEq]
        refine callO (ih (mid - a1) (by omega) v d5 a1 mid d.size _ _ lim2 rfl hs5.symm rfl rfl r1 (by omega) (by omega) r4) ?_
        rintro _ _ ⟨d6, rfl, rfl, q1, q2⟩
        simp only [rowD]
        simp (config := {maxSteps := 2000000, implicitDefEqProofs := false}) (disch := omega) only [↓reduceIte, go_sem, Int.reduceToNat, Nat.reduceAdd, Nat.reduceLeDiff, Nat.reduceEqDiff, Nat.reduceSub, Nat.reduceMul, reduceCtorEq]
        have q3 := r6 d6 q1 q2
        exact ⟨((((mid + 1, b1), lim2), (_, ap)), d6), rfl, ⟨by simp only; omega, h2, by simp only; omega, q1.1.trans hs5, q3.1, fun R k1 k2 => fin R (q3.2 R k1 k2)⟩, by simp only; omega⟩
      · simp (config := {maxSteps := 2000000, implicitDefEqProofs := false}) (disch := omega) only [↓reduceIte, go_sem, Int.reduceToNat, Nat.reduceAdd, Nat.reduceLeDiff, Nat.reduceEqDiff, Nat.reduceSub, Nat.reduceMul, reduceCtorEq]
        refine callO (ih (b1 - (mid + 1)) (by omega) v d5 (mid + 1) b1 d.size _ _ lim2 rfl hs5.symm (by omega) rfl (by omega) (by omega) (by omega) r5) ?_
        rintro _ _ ⟨d6, rfl, rfl, q1, q2⟩
        simp only [rowD]
        simp (config := {maxSteps := 2000000, implicitDefEqProofs := false}) (disch := omega) only [↓reduceIte, go_sem, Int.reduceToNat, Nat.reduceAdd, Nat.reduceLeDiff, Nat.reduceEqDiff, Nat.reduceSub, Nat.reduceMul, reduceCtorEq]
        have q3 := r7 d6 q1 q2
        exact ⟨((((a1, mid), lim2), (_, ap)), d6), rfl, ⟨r1, by simp only; omega, by simp only; omega, q1.1.trans hs5, q3.1, fun R k1 k2 => fin R (q3.2 R k1 k2)⟩, by simp only; omega⟩
theorem C44 (v : Nat) (d : Array Seg) (hl : d.size ≤ 120) :
    Ctr Try.prog 44 [.hs 0 v 0 d.size, cF] (rowD v d) (fun r o => ∃ d', r = [] ∧ o = rowD v d' ∧ Go.Sort.PermIn 0 d.size d d' ∧ Go.Sort.SortedIn ltS 0 d.size d') := by
  apply ctr_b A44_ok rfl (Nat.le_of_ble_eq_true rfl)
  unfold A44
  simp only [rowD, initL, Nat.reduceAdd]
  simp (config := {maxSteps := 2000000, implicitDefEqProofs := false}) (disch := omega) only [↓reduceIte, go_sem, Int.reduceToNat, Nat.reduceAdd, Nat.reduceLeDiff, Nat.reduceEqDiff, Nat.reduceSub, Nat.reduceMul, reduceCtorEq, wrapU]
  refine callL (C40 d.size (by omega)) ?_
  simp (config := {maxSteps := 2000000, implicitDefEqProofs := false}) (disch := omega) only [↓reduceIte, go_sem, Int.reduceToNat, Nat.reduceAdd, Nat.reduceLeDiff, Nat.reduceEqDiff, Nat.reduceSub, Nat.reduceMul, reduceCtorEq]
  refine callO (C61 (d.size - 0) v d 0 d.size d.size _ _ _ rfl rfl rfl rfl (Nat.zero_le _) (Nat.le_refl _) hl (.inl rfl)) ?_
  rintro _ _ ⟨d', rfl, rfl, h1, h2⟩
  simp only [rowD]
  simp (config := {maxSteps := 2000000, implicitDefEqProofs := false}) (disch := omega) only [↓reduceIte, go_sem, Int.reduceToNat, Nat.reduceAdd, Nat.reduceLeDiff, Nat.reduceEqDiff, Nat.reduceSub, Nat.reduceMul, reduceCtorEq]
  exact ⟨d', rfl, h1, h2⟩
def leS (x y : Seg) : Bool := !ltS y x
theorem C36 (l : List Seg) (hl : l.length ≤ 120) : Ctr Try.prog 36 [.fn 45 [.rp [.sl (l.map encS)]], cF] [] (ret [.sl ((l.mergeSort leS).map encS)]) := by
  apply ctr_b A36_ok rfl (Nat.le_of_ble_eq_true rfl)
  unfold A36
  simp only [initL, Nat.reduceAdd]
  simp (config := {maxSteps := 2000000, implicitDefEqProofs := false}) (disch := omega) only [↓reduceIte, go_sem, Int.reduceToNat, Nat.reduceAdd, Nat.reduceLeDiff, Nat.reduceEqDiff, Nat.reduceSub, Nat.reduceMul, reduceCtorEq]
  refine callD (C43 45 _ l rfl (by omega) (I45 l (by omega))) ?_
  simp (config := {maxSteps := 2000000, implicitDefEqProofs := false}) (disch := omega) only [↓reduceIte, go_sem, Int.reduceToNat, Nat.reduceAdd, Nat.reduceLeDiff, Nat.reduceEqDiff, Nat.reduceSub, Nat.reduceMul, reduceCtorEq]
  have hc := C44 l.length l.toArray (by simpa using hl)
  unfold rowD at hc
  simp only [List.size_toArray] at hc
  refine callO hc ?_
  rintro _ _ ⟨d', rfl, rfl, k1, k2⟩
  have hu := Go.Sort.sorted_unique_holds (lt := ltS) swoS (fun x y h1 h2 => lt_tot h1 h2) l.toArray d' (by simpa using k1) (by simpa using k2)
  have hlen : d'.size = l.length := by simpa using k1.1
  have he : d'.toList = l.mergeSort leS := by rw [hu]; rfl
  simp (config := {maxSteps := 2000000, implicitDefEqProofs := false}) (disch := omega) only [↓reduceIte, go_sem, Int.reduceToNat, Nat.reduceAdd, Nat.reduceLeDiff, Nat.reduceEqDiff, Nat.reduceSub, Nat.reduceMul, reduceCtorEq]
  rw [List.take_of_length_le (by simp [hlen]), he]
  exact ⟨rfl, rfl⟩

end Go.Proofs.Ytpmabjkjolhilaa.X
