import Derived.Test.YtmmgdilhbkklpaaM08F
import Derived.Test.YtmmgdilhbkklpaaM08N
namespace Go.Proofs.Ytmmgdilhbkklpaa.X
open Go Go.AM Go.Proofs
attribute [local go_sem ↓] w_skip w_lbl w_ops w_draw w_pre w_post w_alt w_seq w_cond w_block w_loop w_exit w_ret w_scope th_n th_e th_r bk_n bk_r bk_e t_nil t_it t_call i_nil i_one i_grp s_nil s_cons c_call e_mv e_frz o_mov o_bin o_eq o_un o_conv o_len o_slen o_idx o_aix o_fad o_load o_store o_boxp o_boxo o_boxm o_alloc o_alloca o_nilarr o_build o_bslp o_bslo o_slc o_sslc o_slc3 o_sidx o_mkfn o_ext o_pick o_callf o_callb o_appd o_clear o_mxn o_field o_nilc o_make o_buildm o_boxg o_mkif o_tass o_eqs o_callo k_int k_str k_bool k_grb k_grt k_some k_none k_arr k_lens k_lenf k_lenh k_idxs k_idxf k_idxh k_ld k_loadp k_loadr k_loade k_storer k_storee k_oin k_ois k_slcs k_slcf k_slch k_slc3s k_slc3f k_slc3h k_app2 k_apps k_appf k_apph k_cals k_cald k_cali k_cnb k_cna k_esn k_esc k_efn k_efc k_esh b_add b_sub b_mul b_quo b_rem b_and b_or b_xor b_andNot b_eql b_neq b_lss b_leq b_gtr b_geq b_shl b_shr b_seq b_sne b_slt b_sad q_bool q_str q_nil q_nilf u_not u_neg u_xor f_ret f_nor v_r v_c v_reg v_ob v_set v_put v_so v_sn v_pn v_pc g_nil d_nil p_nil m_mv m_fr z_nil z_cons z_an z_ac g_cons d_cons p_cons y_mov y_bin y_eq y_un y_conv y_len y_slen y_idx y_aix y_fad y_load y_store y_boxp y_boxo y_boxm y_alloc y_alloca y_nilarr y_build y_bslp y_bslo y_slc y_sslc y_slc3 y_sidx y_mkfn y_ext y_pick y_callf y_callb y_appd y_clear y_mxn y_field y_nilc y_make y_buildm y_boxg y_mkif y_tass y_eqs y_callo nb_if
attribute [local go_sem] VL_mk VL2_mk If_t If_f If_not If_and If_or If_dt If_df If_et If_ef If_ne Ck_t Ck_h Opt_s ld_a ld_c renL ren keepR renA idxM invL getObs mapOb renOb allNone putAll fzR fzO fz fzL fzOb frzOk upFrom mapR resOne resA cellsOf oneA oneAL isP isPL okSt kRows kParts fillA setAt bor bor0 bor1 bor2 borC borI key0 key1 key2 keysA fillM cellsM cellM unif ptrA ifOk kPartsM getObsM allNoneM zipU scal0 scalar eqC evNil evNilF List.map_cons List.map_nil List.cons_append List.nil_append List.append_nil List.drop_zero List.drop_succ_cons List.drop_nil List.take_succ_cons List.take_zero List.take_nil List.length_cons List.length_nil List.length_map List.getElem?_map Option.map_some Option.map_none Int.toNat_natCast Int.toNat_zero Int.toNat_one Int.natCast_nonneg List.flatMap_cons List.flatMap_nil List.all_cons List.all_nil Bool.and_true Bool.true_and Bool.and_false Bool.false_and Bool.not_true Bool.not_false beq_self_eq_true nb_self all_nil List.forall_mem_cons tk_map tk_app bs_self bs_dec bq_t bq_f Bool.not_not decide_true decide_false Bool.not_not and_self and_true true_and eq_self List.reverse_cons List.reverse_nil List.getElem?_cons_zero List.getElem?_cons_succ cond_true cond_false List.set_cons_zero List.set_cons_succ Nat.zero_add Nat.add_zero if_true if_false ite_true ite_false implies_true wrap64 wrap8
set_option linter.unusedVariables false
set_option linter.unusedSimpArgs false
set_option maxRecDepth 10000
theorem C10n (x : It) : Ctr Try.prog 10 [.nilp, .agg (encIt x)] [] (ret []) := by
  apply ctr_b B10_ok rfl (Nat.le_of_ble_eq_true rfl)
  unfold B10
  simp only [initL, Nat.reduceAdd]
  simp (config := {maxSteps := 2000000, implicitDefEqProofs := false}) (disch := omega) only [↓reduceIte, go_sem, Int.reduceToNat, Nat.reduceAdd, Nat.reduceLeDiff, Nat.reduceEqDiff, Nat.reduceSub, Nat.reduceMul, reduceCtorEq, encIt]
  refine callL C21n ?_
  simp (config := {maxSteps := 2000000, implicitDefEqProofs := false}) (disch := omega) only [↓reduceIte, go_sem, Int.reduceToNat, Nat.reduceAdd, Nat.reduceLeDiff, Nat.reduceEqDiff, Nat.reduceSub, Nat.reduceMul, reduceCtorEq, encIt]
  exact ⟨rfl, rfl⟩
theorem C11n : Ctr Try.prog 11 [.nilp] [] (ret [.agg (encIt ⟨0, 0⟩), .bool false]) := by
  apply ctr_b B11_ok rfl (Nat.le_of_ble_eq_true rfl)
  unfold B11
  simp only [initL, Nat.reduceAdd]
  simp (config := {maxSteps := 2000000, implicitDefEqProofs := false}) (disch := omega) only [↓reduceIte, go_sem, Int.reduceToNat, Nat.reduceAdd, Nat.reduceLeDiff, Nat.reduceEqDiff, Nat.reduceSub, Nat.reduceMul, reduceCtorEq]
  refine callL C17n ?_
  simp (config := {maxSteps := 2000000, implicitDefEqProofs := false}) (disch := omega) only [↓reduceIte, go_sem, Int.reduceToNat, Nat.reduceAdd, Nat.reduceLeDiff, Nat.reduceEqDiff, Nat.reduceSub, Nat.reduceMul, reduceCtorEq]
  exact ⟨rfl, rfl⟩
theorem C14n (a k : Int) : Ctr Try.prog 14 [.nilp, .int .i64 a, .int .i64 k] [] (ret [.int .i64 0]) := by
  apply ctr_b B14_ok rfl (Nat.le_of_ble_eq_true rfl)
  unfold B14
  simp only [initL, Nat.reduceAdd]
  simp (config := {maxSteps := 2000000, implicitDefEqProofs := false}) (disch := omega) only [↓reduceIte, go_sem, Int.reduceToNat, Nat.reduceAdd, Nat.reduceLeDiff, Nat.reduceEqDiff, Nat.reduceSub, Nat.reduceMul, reduceCtorEq]
  refine callL C21n ?_
  simp (config := {maxSteps := 2000000, implicitDefEqProofs := false}) (disch := omega) only [↓reduceIte, go_sem, Int.reduceToNat, Nat.reduceAdd, Nat.reduceLeDiff, Nat.reduceEqDiff, Nat.reduceSub, Nat.reduceMul, reduceCtorEq]
  exact ⟨rfl, rfl⟩
theorem C8n (n : Int) : Ctr Try.prog 8 [.nilp, .int .i64 n] [] (ret [.sl []]) := by
  apply ctr_b B8_ok rfl (Nat.le_of_ble_eq_true rfl)
  unfold B8
  simp only [initL, Nat.reduceAdd]
  simp (config := {maxSteps := 2000000, implicitDefEqProofs := false}) (disch := omega) only [↓reduceIte, go_sem, Int.reduceToNat, Nat.reduceAdd, Nat.reduceLeDiff, Nat.reduceEqDiff, Nat.reduceSub, Nat.reduceMul, reduceCtorEq]
  refine loopL (σ := Unit) (fun s => ⟨[(0, .nilp), (1, .int .i64 n), (5, .hs 5 0 0 0)], [(5, .arr 0 2 [])]⟩) (fun s => True) (fun s => 0) () (by simp (config := {maxSteps := 2000000, implicitDefEqProofs := false}) (disch := omega) only [↓reduceIte, go_sem, Int.reduceToNat, Nat.reduceAdd, Nat.reduceLeDiff, Nat.reduceEqDiff, Nat.reduceSub, Nat.reduceMul, reduceCtorEq]) trivial ?_
  rintro - -
  simp (config := {maxSteps := 2000000, implicitDefEqProofs := false}) (disch := omega) only [↓reduceIte, go_sem, Int.reduceToNat, Nat.reduceAdd, Nat.reduceLeDiff, Nat.reduceEqDiff, Nat.reduceSub, Nat.reduceMul, reduceCtorEq]
  refine ifD (fun g => ?_) (fun g => ?_)
  · simp (config := {maxSteps := 2000000, implicitDefEqProofs := false}) (disch := omega) only [↓reduceIte, go_sem, Int.reduceToNat, Nat.reduceAdd, Nat.reduceLeDiff, Nat.reduceEqDiff, Nat.reduceSub, Nat.reduceMul, reduceCtorEq]
    refine callL C11n ?_
    simp (config := {maxSteps := 2000000, implicitDefEqProofs := false}) (disch := omega) only [↓reduceIte, go_sem, Int.reduceToNat, Nat.reduceAdd, Nat.reduceLeDiff, Nat.reduceEqDiff, Nat.reduceSub, Nat.reduceMul, reduceCtorEq, encIt]
    exact ⟨rfl, rfl⟩
  · simp (config := {maxSteps := 2000000, implicitDefEqProofs := false}) (disch := omega) only [↓reduceIte, go_sem, Int.reduceToNat, Nat.reduceAdd, Nat.reduceLeDiff, Nat.reduceEqDiff, Nat.reduceSub, Nat.reduceMul, reduceCtorEq]
    exact ⟨rfl, rfl⟩
abbrev it (k v : Int) : List AV := [.int .i64 k, .int .i64 v]
abbrev pO (v n : Nat) (l : List (List AV)) : List Ob := [.box [.hs 1 v 0 n, .fn 19 []], .arr v 2 l]
theorem W7 : Ctr Try.prog 7 [.sl [it 2 5, it 7 1, it 7 0]] [] (fun r o => ∃ v, r = [.ref 0 0] ∧ o = pO v 3 [it 7 0, it 7 1, it 2 5]) := by
  have h := C7 [⟨2, 5⟩, ⟨7, 1⟩, ⟨7, 0⟩] (by decide)
  have h1 : heapify [⟨2, 5⟩, ⟨7, 1⟩, ⟨7, 0⟩] = [⟨7, 0⟩, ⟨7, 1⟩, ⟨2, 5⟩] := by decide
  rw [h1] at h
  exact h
theorem W11 (v : Nat) : Ctr Try.prog 11 [.ref 0 0] (pO v 3 [it 7 0, it 7 1, it 2 5]) (retO [.agg (it 7 0), .bool true] (pO v 2 [it 7 1, it 2 5, it 7 0])) := by
  have h := C11 v [⟨7, 0⟩, ⟨7, 1⟩, ⟨2, 5⟩] [] (by decide) (by decide)
  have h1 : (popF [⟨7, 0⟩, ⟨7, 1⟩, ⟨2, 5⟩]).take ([⟨7, 0⟩, ⟨7, 1⟩, ⟨2, 5⟩] : List It).length.pred = [⟨7, 1⟩, ⟨2, 5⟩] := by decide
  rw [show ([⟨7, 0⟩, ⟨7, 1⟩, ⟨2, 5⟩] : List It).length - 1 = ([⟨7, 0⟩, ⟨7, 1⟩, ⟨2, 5⟩] : List It).length.pred from rfl, h1] at h
  exact h
theorem W14 (v : Nat) : Ctr Try.prog 14 [.ref 0 0, .int .i64 5, .int .i64 9] (pO v 2 [it 7 1, it 2 5, it 7 0]) (retO [.int .i64 1] (pO v 2 [it 9 5, it 7 1, it 7 0])) := by
  have h := C14 v [⟨7, 1⟩, ⟨2, 5⟩] [it 7 0] 5 9 (by decide)
  have h1 : heapify ([⟨7, 1⟩, ⟨2, 5⟩].map (chg 5 9)) = [⟨9, 5⟩, ⟨7, 1⟩] := by decide
  rw [h1] at h
  exact h
theorem W16 : Ctr Try.prog 16 [.rp [.sl [it 9 5, it 7 1], .fn 19 []]] [] (ret [.agg (it 9 5), .bool true]) := C16 [⟨9, 5⟩, ⟨7, 1⟩] (by decide)
theorem W17 : Ctr Try.prog 17 [.rp [.sl [it 9 5, it 7 1], .fn 19 []]] [] (ret [.int .i64 2]) := C17 [⟨9, 5⟩, ⟨7, 1⟩]
theorem W8 (v : Nat) : Ctr Try.prog 8 [.ref 0 0, .int .i64 1] (pO v 2 [it 9 5, it 7 1, it 7 0]) (retO [.sl [it 9 5]] (pO v 1 [it 7 1, it 9 5, it 7 0])) := by
  have h := C8 v [⟨9, 5⟩, ⟨7, 1⟩] [it 7 0] 1 (by decide)
  have h1 : drainF 1 [⟨9, 5⟩, ⟨7, 1⟩] [it 7 0] = ([⟨9, 5⟩], [⟨7, 1⟩], [it 9 5, it 7 0]) := rfl
  rw [show (1 : Int).toNat = 1 from rfl, h1] at h
  exact h
theorem C6 : Ctr Try.prog 6 [] [] (ret [.bool true]) := by
  apply ctr_b A6_ok rfl (Nat.le_of_ble_eq_true rfl)
  unfold A6
  simp only [initL, Nat.reduceAdd]
  simp (config := {maxSteps := 2000000, implicitDefEqProofs := false}) (disch := omega) only [↓reduceIte, go_sem, Int.reduceToNat, Nat.reduceAdd, Nat.reduceLeDiff, Nat.reduceEqDiff, Nat.reduceSub, Nat.reduceMul, reduceCtorEq]
  refine callO W7 ?_
  rintro r o ⟨v, rfl, rfl⟩
  simp (config := {maxSteps := 2000000, implicitDefEqProofs := false}) (disch := omega) only [↓reduceIte, go_sem, Int.reduceToNat, Nat.reduceAdd, Nat.reduceLeDiff, Nat.reduceEqDiff, Nat.reduceSub, Nat.reduceMul, reduceCtorEq]
  refine callD (W11 v) ?_
  simp (config := {maxSteps := 2000000, implicitDefEqProofs := false}) (disch := omega) only [↓reduceIte, go_sem, Int.reduceToNat, Nat.reduceAdd, Nat.reduceLeDiff, Nat.reduceEqDiff, Nat.reduceSub, Nat.reduceMul, reduceCtorEq]
  refine callD (W14 v) ?_
  simp (config := {maxSteps := 2000000, implicitDefEqProofs := false}) (disch := omega) only [↓reduceIte, go_sem, Int.reduceToNat, Nat.reduceAdd, Nat.reduceLeDiff, Nat.reduceEqDiff, Nat.reduceSub, Nat.reduceMul, reduceCtorEq]
  refine callL W16 ?_
  simp (config := {maxSteps := 2000000, implicitDefEqProofs := false}) (disch := omega) only [↓reduceIte, go_sem, Int.reduceToNat, Nat.reduceAdd, Nat.reduceLeDiff, Nat.reduceEqDiff, Nat.reduceSub, Nat.reduceMul, reduceCtorEq]
  refine callL W17 ?_
  simp (config := {maxSteps := 2000000, implicitDefEqProofs := false}) (disch := omega) only [↓reduceIte, go_sem, Int.reduceToNat, Nat.reduceAdd, Nat.reduceLeDiff, Nat.reduceEqDiff, Nat.reduceSub, Nat.reduceMul, reduceCtorEq]
  refine callD (W8 v) ?_
  simp (config := {maxSteps := 2000000, implicitDefEqProofs := false}) (disch := omega) only [↓reduceIte, go_sem, Int.reduceToNat, Nat.reduceAdd, Nat.reduceLeDiff, Nat.reduceEqDiff, Nat.reduceSub, Nat.reduceMul, reduceCtorEq]
  exact ⟨rfl, rfl⟩
end Go.Proofs.Ytmmgdilhbkklpaa.X
