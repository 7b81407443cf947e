import Derived.Test.YtmmgdilhbkklpaaM08A
import Derived.Test.YtmmgdilhbkklpaaM08B
namespace Go.Proofs.Ytmmgdilhbkklpaa.X
open Go Go.AM Go.Proofs
attribute [local go_sem ↓] w_skip w_lbl w_ops w_draw w_pre w_post w_alt w_seq w_cond w_block w_loop w_exit w_ret w_scope th_n th_e th_r bk_n bk_r bk_e t_nil t_it t_call i_nil i_one i_grp s_nil s_cons c_call e_mv e_frz o_mov o_bin o_eq o_un o_conv o_len o_slen o_idx o_aix o_fad o_load o_store o_boxp o_boxo o_boxm o_alloc o_alloca o_nilarr o_build o_bslp o_bslo o_slc o_sslc o_slc3 o_sidx o_mkfn o_ext o_pick o_callf o_callb o_appd o_clear o_mxn o_field o_nilc o_make o_buildm o_boxg o_mkif o_tass o_eqs o_callo k_int k_str k_bool k_grb k_grt k_some k_none k_arr k_lens k_lenf k_lenh k_idxs k_idxf k_idxh k_ld k_loadp k_loadr k_loade k_storer k_storee k_oin k_ois k_slcs k_slcf k_slch k_slc3s k_slc3f k_slc3h k_app2 k_apps k_appf k_apph k_cals k_cald k_cali k_cnb k_cna k_esn k_esc k_efn k_efc k_esh b_add b_sub b_mul b_quo b_rem b_and b_or b_xor b_andNot b_eql b_neq b_lss b_leq b_gtr b_geq b_shl b_shr b_seq b_sne b_slt b_sad q_bool q_str q_nil q_nilf u_not u_neg u_xor f_ret f_nor v_r v_c v_reg v_ob v_set v_put v_so v_sn v_pn v_pc g_nil d_nil p_nil m_mv m_fr z_nil z_cons z_an z_ac g_cons d_cons p_cons y_mov y_bin y_eq y_un y_conv y_len y_slen y_idx y_aix y_fad y_load y_store y_boxp y_boxo y_boxm y_alloc y_alloca y_nilarr y_build y_bslp y_bslo y_slc y_sslc y_slc3 y_sidx y_mkfn y_ext y_pick y_callf y_callb y_appd y_clear y_mxn y_field y_nilc y_make y_buildm y_boxg y_mkif y_tass y_eqs y_callo nb_if
attribute [local go_sem] VL_mk VL2_mk If_t If_f If_not If_and If_or If_dt If_df If_et If_ef If_ne Ck_t Ck_h Opt_s ld_a ld_c renL ren keepR renA idxM invL getObs mapOb renOb allNone putAll fzR fzO fz fzL fzOb frzOk upFrom mapR resOne resA cellsOf oneA oneAL isP isPL okSt kRows kParts fillA setAt bor bor0 bor1 bor2 borC borI key0 key1 key2 keysA fillM cellsM cellM unif ptrA ifOk kPartsM getObsM allNoneM zipU scal0 scalar eqC evNil evNilF List.map_cons List.map_nil List.cons_append List.nil_append List.append_nil List.drop_zero List.drop_succ_cons List.drop_nil List.take_succ_cons List.take_zero List.take_nil List.length_cons List.length_nil List.length_map List.getElem?_map Option.map_some Option.map_none Int.toNat_natCast Int.toNat_zero Int.toNat_one Int.natCast_nonneg List.flatMap_cons List.flatMap_nil List.all_cons List.all_nil Bool.and_true Bool.true_and Bool.and_false Bool.false_and Bool.not_true Bool.not_false beq_self_eq_true nb_self all_nil List.forall_mem_cons tk_map tk_app bs_self bs_dec bq_t bq_f Bool.not_not decide_true decide_false Bool.not_not and_self and_true true_and eq_self List.reverse_cons List.reverse_nil List.getElem?_cons_zero List.getElem?_cons_succ cond_true cond_false List.set_cons_zero List.set_cons_succ Nat.zero_add Nat.add_zero if_true if_false ite_true ite_false implies_true wrap64 wrap8
set_option linter.unusedVariables false
set_option linter.unusedSimpArgs false
set_option maxRecDepth 10000
def encIt (x : It) : List AV := [.int .i64 x.key, .int .i64 x.value]
def rowP (l : List It) : List AV := [.sl (l.map encIt), .fn 19 []]
def pileO (v : Nat) (l : List It) (junk : List (List AV)) : List Ob := [.box [.hs 1 v 0 l.length, .fn 19 []], .arr v 2 (l.map encIt ++ junk)]
theorem mLen : MethOk Try.prog 56 "Len" 25 := fun a w => by kernel_rfl
theorem mLess : MethOk Try.prog 56 "Less" 44 := fun a w => by kernel_rfl
theorem mSwap : MethOk Try.prog 56 "Swap" 47 := fun a w => by kernel_rfl
theorem mPop : MethOk Try.prog 56 "Pop" 45 := fun a w => by kernel_rfl
theorem mPush : MethOk Try.prog 56 "Push" 46 := fun a w => by kernel_rfl
theorem C19 (a b : It) : Ctr Try.prog 19 [.agg (encIt a), .agg (encIt b)] [] (ret [.bool (bef a b)]) := by
  apply ctr_b A19_ok rfl (Nat.le_of_ble_eq_true rfl)
  unfold A19
  simp only [initL, Nat.reduceAdd]
  simp (config := {maxSteps := 2000000, implicitDefEqProofs := false}) (disch := omega) only [↓reduceIte, go_sem, Int.reduceToNat, Nat.reduceAdd, Nat.reduceLeDiff, Nat.reduceEqDiff, Nat.reduceSub, Nat.reduceMul, reduceCtorEq, encIt]
  refine ifE (fun h => ?_) (fun h => ?_)
  · simp (config := {maxSteps := 2000000, implicitDefEqProofs := false}) (disch := omega) only [↓reduceIte, go_sem, Int.reduceToNat, Nat.reduceAdd, Nat.reduceLeDiff, Nat.reduceEqDiff, Nat.reduceSub, Nat.reduceMul, reduceCtorEq]
    exact ⟨by simp [bef, h], rfl⟩
  · simp (config := {maxSteps := 2000000, implicitDefEqProofs := false}) (disch := omega) only [↓reduceIte, go_sem, Int.reduceToNat, Nat.reduceAdd, Nat.reduceLeDiff, Nat.reduceEqDiff, Nat.reduceSub, Nat.reduceMul, reduceCtorEq]
    exact ⟨by simp [bef, h], rfl⟩
theorem C25 (l : List It) : Ctr Try.prog 25 [.rp (rowP l)] [] (ret [.int .i64 l.length]) := by
  apply ctr_b A25_ok rfl (Nat.le_of_ble_eq_true rfl)
  unfold A25
  simp only [initL, Nat.reduceAdd]
  simp (config := {maxSteps := 2000000, implicitDefEqProofs := false}) (disch := omega) only [↓reduceIte, go_sem, Int.reduceToNat, Nat.reduceAdd, Nat.reduceLeDiff, Nat.reduceEqDiff, Nat.reduceSub, Nat.reduceMul, reduceCtorEq, rowP]
  exact ⟨rfl, rfl⟩
theorem C44 (l : List It) (i k : Nat) (hi : i < l.length) (hk : k < l.length) : Ctr Try.prog 44 [.rp (rowP l), .int .i64 i, .int .i64 k] [] (ret [.bool (bef l[i]! l[k]!)]) := by
  apply ctr_b A44_ok rfl (Nat.le_of_ble_eq_true rfl)
  unfold A44
  simp only [initL, Nat.reduceAdd]
  have h1 := bang hi
  have h2 := bang hk
  simp (config := {maxSteps := 2000000, implicitDefEqProofs := false}) (disch := omega) only [↓reduceIte, go_sem, Int.reduceToNat, Nat.reduceAdd, Nat.reduceLeDiff, Nat.reduceEqDiff, Nat.reduceSub, Nat.reduceMul, reduceCtorEq, rowP, h1, h2, encIt]
  refine callL (C19 l[i]! l[k]!) ?_
  simp (config := {maxSteps := 2000000, implicitDefEqProofs := false}) (disch := omega) only [↓reduceIte, go_sem, Int.reduceToNat, Nat.reduceAdd, Nat.reduceLeDiff, Nat.reduceEqDiff, Nat.reduceSub, Nat.reduceMul, reduceCtorEq]
  refine accL (by kernel_rfl) ?_
  simp (config := {maxSteps := 2000000, implicitDefEqProofs := false}) (disch := omega) only [↓reduceIte, go_sem, Int.reduceToNat, Nat.reduceAdd, Nat.reduceLeDiff, Nat.reduceEqDiff, Nat.reduceSub, Nat.reduceMul, reduceCtorEq]
  exact ⟨rfl, rfl⟩
theorem C21 (l : List It) : Ctr Try.prog 21 [.rp (rowP l)] [] (ret [.bool true]) := by
  apply ctr_b A21_ok rfl (Nat.le_of_ble_eq_true rfl)
  unfold A21
  simp only [initL, Nat.reduceAdd]
  simp (config := {maxSteps := 2000000, implicitDefEqProofs := false}) (disch := omega) only [↓reduceIte, go_sem, Int.reduceToNat, Nat.reduceAdd, Nat.reduceLeDiff, Nat.reduceEqDiff, Nat.reduceSub, Nat.reduceMul, reduceCtorEq, rowP, evNilF]
  exact ⟨rfl, rfl⟩
theorem C21n : Ctr Try.prog 21 [.nilp] [] (ret [.bool false]) := by
  apply ctr_b A21_ok rfl (Nat.le_of_ble_eq_true rfl)
  unfold A21
  simp only [initL, Nat.reduceAdd]
  simp (config := {maxSteps := 2000000, implicitDefEqProofs := false}) (disch := omega) only [↓reduceIte, go_sem, Int.reduceToNat, Nat.reduceAdd, Nat.reduceLeDiff, Nat.reduceEqDiff, Nat.reduceSub, Nat.reduceMul, reduceCtorEq]
  exact ⟨rfl, rfl⟩
theorem C17 (l : List It) : Ctr Try.prog 17 [.rp (rowP l)] [] (ret [.int .i64 l.length]) := by
  apply ctr_b A17_ok rfl (Nat.le_of_ble_eq_true rfl)
  unfold A17
  simp only [initL, Nat.reduceAdd]
  simp (config := {maxSteps := 2000000, implicitDefEqProofs := false}) (disch := omega) only [↓reduceIte, go_sem, Int.reduceToNat, Nat.reduceAdd, Nat.reduceLeDiff, Nat.reduceEqDiff, Nat.reduceSub, Nat.reduceMul, reduceCtorEq]
  refine callL (C21 l) ?_
  simp (config := {maxSteps := 2000000, implicitDefEqProofs := false}) (disch := omega) only [↓reduceIte, go_sem, Int.reduceToNat, Nat.reduceAdd, Nat.reduceLeDiff, Nat.reduceEqDiff, Nat.reduceSub, Nat.reduceMul, reduceCtorEq]
  refine callL (C25 l) ?_
  simp (config := {maxSteps := 2000000, implicitDefEqProofs := false}) (disch := omega) only [↓reduceIte, go_sem, Int.reduceToNat, Nat.reduceAdd, Nat.reduceLeDiff, Nat.reduceEqDiff, Nat.reduceSub, Nat.reduceMul, reduceCtorEq]
  exact ⟨rfl, rfl⟩
theorem C17n : Ctr Try.prog 17 [.nilp] [] (ret [.int .i64 0]) := by
  apply ctr_b A17_ok rfl (Nat.le_of_ble_eq_true rfl)
  unfold A17
  simp only [initL, Nat.reduceAdd]
  simp (config := {maxSteps := 2000000, implicitDefEqProofs := false}) (disch := omega) only [↓reduceIte, go_sem, Int.reduceToNat, Nat.reduceAdd, Nat.reduceLeDiff, Nat.reduceEqDiff, Nat.reduceSub, Nat.reduceMul, reduceCtorEq]
  refine callL C21n ?_
  simp (config := {maxSteps := 2000000, implicitDefEqProofs := false}) (disch := omega) only [↓reduceIte, go_sem, Int.reduceToNat, Nat.reduceAdd, Nat.reduceLeDiff, Nat.reduceEqDiff, Nat.reduceSub, Nat.reduceMul, reduceCtorEq]
  exact ⟨rfl, rfl⟩
theorem C16 (l : List It) (h : 0 < l.length) : Ctr Try.prog 16 [.rp (rowP l)] [] (ret [.agg (encIt l[0]!), .bool true]) := by
  apply ctr_b A16_ok rfl (Nat.le_of_ble_eq_true rfl)
  unfold A16
  simp only [initL, Nat.reduceAdd]
  have h1 := bang h
  simp (config := {maxSteps := 2000000, implicitDefEqProofs := false}) (disch := omega) only [↓reduceIte, go_sem, Int.reduceToNat, Nat.reduceAdd, Nat.reduceLeDiff, Nat.reduceEqDiff, Nat.reduceSub, Nat.reduceMul, reduceCtorEq]
  refine callL (C17 l) ?_
  simp (config := {maxSteps := 2000000, implicitDefEqProofs := false}) (disch := omega) only [↓reduceIte, go_sem, Int.reduceToNat, Nat.reduceAdd, Nat.reduceLeDiff, Nat.reduceEqDiff, Nat.reduceSub, Nat.reduceMul, reduceCtorEq, rowP, h1, encIt]
  exact ⟨rfl, rfl⟩
theorem C16e : Ctr Try.prog 16 [.rp (rowP [])] [] (ret [.agg (encIt ⟨0, 0⟩), .bool false]) := by
  apply ctr_b A16_ok rfl (Nat.le_of_ble_eq_true rfl)
  unfold A16
  simp only [initL, Nat.reduceAdd]
  simp (config := {maxSteps := 2000000, implicitDefEqProofs := false}) (disch := omega) only [↓reduceIte, go_sem, Int.reduceToNat, Nat.reduceAdd, Nat.reduceLeDiff, Nat.reduceEqDiff, Nat.reduceSub, Nat.reduceMul, reduceCtorEq]
  refine callL (C17 []) ?_
  simp (config := {maxSteps := 2000000, implicitDefEqProofs := false}) (disch := omega) only [↓reduceIte, go_sem, Int.reduceToNat, Nat.reduceAdd, Nat.reduceLeDiff, Nat.reduceEqDiff, Nat.reduceSub, Nat.reduceMul, reduceCtorEq]
  exact ⟨rfl, rfl⟩
theorem C16n : Ctr Try.prog 16 [.nilp] [] (ret [.agg (encIt ⟨0, 0⟩), .bool false]) := by
  apply ctr_b A16_ok rfl (Nat.le_of_ble_eq_true rfl)
  unfold A16
  simp only [initL, Nat.reduceAdd]
  simp (config := {maxSteps := 2000000, implicitDefEqProofs := false}) (disch := omega) only [↓reduceIte, go_sem, Int.reduceToNat, Nat.reduceAdd, Nat.reduceLeDiff, Nat.reduceEqDiff, Nat.reduceSub, Nat.reduceMul, reduceCtorEq]
  refine callL C17n ?_
  simp (config := {maxSteps := 2000000, implicitDefEqProofs := false}) (disch := omega) only [↓reduceIte, go_sem, Int.reduceToNat, Nat.reduceAdd, Nat.reduceLeDiff, Nat.reduceEqDiff, Nat.reduceSub, Nat.reduceMul, reduceCtorEq]
  exact ⟨rfl, rfl⟩
theorem app_at {l : List It} {junk : List (List AV)} {i : Nat} (h : i < l.length) : (l.map encIt ++ junk)[i]? = some (encIt l[i]!) := by
  rw [List.getElem?_append_left (by simpa using h), List.getElem?_map, bang h]
  rfl
theorem set_at {l : List It} {junk : List (List AV)} {i k : Nat} (hi : i < l.length) (hk : k < l.length) : ((l.map encIt ++ junk).set i (encIt l[k]!))[k]? = some (encIt l[k]!) := by
  rw [List.getElem?_set]
  split
  · rename_i e
    subst e
    rw [if_pos (by simp; omega)]
  · exact app_at hk
theorem set_swp {l : List It} {junk : List (List AV)} {i k : Nat} (hi : i < l.length) (hk : k < l.length) : ((l.map encIt ++ junk).set i (encIt l[k]!)).set k (encIt l[i]!) = (swp l i k).map encIt ++ junk := by
  rw [List.set_append_left _ _ (by simpa using hi), List.set_append_left _ _ (by simpa using hk), ← List.map_set, ← List.map_set]
  rfl
theorem C47 (v : Nat) (l : List It) (junk : List (List AV)) (i k : Nat) (hi : i < l.length) (hk : k < l.length) : Ctr Try.prog 47 [.ref 0 0, .int .i64 i, .int .i64 k] (pileO v l junk) (retO [] (pileO v (swp l i k) junk)) := by
  apply ctr_b A47_ok rfl (Nat.le_of_ble_eq_true rfl)
  unfold A47
  simp only [pileO, initL, Nat.reduceAdd]
  have h1 := app_at (junk := junk) hi
  have h2 := app_at (junk := junk) hk
  have h3 := set_at (junk := junk) hi hk
  have h4 := set_swp (junk := junk) hi hk
  simp only [encIt] at h3 h4
  simp (config := {maxSteps := 2000000, implicitDefEqProofs := false}) (disch := omega) only [↓reduceIte, go_sem, Int.reduceToNat, Nat.reduceAdd, Nat.reduceLeDiff, Nat.reduceEqDiff, Nat.reduceSub, Nat.reduceMul, reduceCtorEq, h1, h2, encIt, h3, h4, swp_len]
  refine accL (by kernel_rfl) ?_
  simp (config := {maxSteps := 2000000, implicitDefEqProofs := false}) (disch := omega) only [↓reduceIte, go_sem, Int.reduceToNat, Nat.reduceAdd, Nat.reduceLeDiff, Nat.reduceEqDiff, Nat.reduceSub, Nat.reduceMul, reduceCtorEq, h1, h2, encIt, h3, h4, swp_len]
  simp [retO, swp_len]
def pushV (v : Nat) (junk : List (List AV)) : Nat := if junk = [] then v + 1 else v
theorem C46 (v : Nat) (l : List It) (junk : List (List AV)) (x : It) (hl : l.length < 1000000000000) : Ctr Try.prog 46 [.ref 0 0, .ifc 29 (.agg (encIt x))] (pileO v l junk) (retO [] (pileO (pushV v junk) (l ++ [x]) (junk.drop 1))) := by
  apply ctr_b A46_ok rfl (Nat.le_of_ble_eq_true rfl)
  unfold A46
  simp only [pileO, initL, Nat.reduceAdd]
  simp (config := {maxSteps := 2000000, implicitDefEqProofs := false}) (disch := omega) only [↓reduceIte, go_sem, Int.reduceToNat, Nat.reduceAdd, Nat.reduceLeDiff, Nat.reduceEqDiff, Nat.reduceSub, Nat.reduceMul, reduceCtorEq, encIt]
  refine ifD (fun h => ?_) (fun h => ?_)
  · have hj : junk = [] := by simpa using h
    subst hj
    simp (config := {maxSteps := 2000000, implicitDefEqProofs := false}) (disch := omega) only [↓reduceIte, go_sem, Int.reduceToNat, Nat.reduceAdd, Nat.reduceLeDiff, Nat.reduceEqDiff, Nat.reduceSub, Nat.reduceMul, reduceCtorEq, encIt]
    refine accL (by kernel_rfl) ?_
    simp (config := {maxSteps := 2000000, implicitDefEqProofs := false}) (disch := omega) only [↓reduceIte, go_sem, Int.reduceToNat, Nat.reduceAdd, Nat.reduceLeDiff, Nat.reduceEqDiff, Nat.reduceSub, Nat.reduceMul, reduceCtorEq, encIt]
    simp [retO, pushV, encIt]
  · have hj : junk ≠ [] := fun e => h (by simp [e])
    obtain ⟨y, ys, rfl⟩ : ∃ y ys, junk = y :: ys := by
      cases junk with
      | nil => exact absurd rfl hj
      | cons y ys => exact ⟨y, ys, rfl⟩
    simp (config := {maxSteps := 2000000, implicitDefEqProofs := false}) (disch := omega) only [↓reduceIte, go_sem, Int.reduceToNat, Nat.reduceAdd, Nat.reduceLeDiff, Nat.reduceEqDiff, Nat.reduceSub, Nat.reduceMul, reduceCtorEq, encIt]
    refine ckL (by simp) ?_
    simp (config := {maxSteps := 2000000, implicitDefEqProofs := false}) (disch := omega) only [↓reduceIte, go_sem, Int.reduceToNat, Nat.reduceAdd, Nat.reduceLeDiff, Nat.reduceEqDiff, Nat.reduceSub, Nat.reduceMul, reduceCtorEq, encIt]
    refine accL (by kernel_rfl) ?_
    simp (config := {maxSteps := 2000000, implicitDefEqProofs := false}) (disch := omega) only [↓reduceIte, go_sem, Int.reduceToNat, Nat.reduceAdd, Nat.reduceLeDiff, Nat.reduceEqDiff, Nat.reduceSub, Nat.reduceMul, reduceCtorEq, encIt]
    have e1 : (l.map encIt ++ y :: ys).drop (l.length + 1) = ys := by
      rw [show l.length + 1 = (l.map encIt).length + 1 by simp, List.drop_append]
      simp
    simp [retO, pushV, encIt, e1]
theorem C45 (v : Nat) (l : List It) (junk : List (List AV)) (h : 0 < l.length) (hl : l.length < 1000000000000) : Ctr Try.prog 45 [.ref 0 0] (pileO v l junk) (retO [.ifc 29 (.agg (encIt l[l.length - 1]!))] (pileO v (l.take (l.length - 1)) (encIt l[l.length - 1]! :: junk))) := by
  apply ctr_b A45_ok rfl (Nat.le_of_ble_eq_true rfl)
  unfold A45
  simp only [pileO, initL, Nat.reduceAdd]
  have h1 := app_at (junk := junk) (show l.length - 1 < l.length by omega)
  have e1 : ((l.length : Int) - 1).toNat = l.length - 1 := by omega
  simp (config := {maxSteps := 2000000, implicitDefEqProofs := false}) (disch := omega) only [↓reduceIte, go_sem, Int.reduceToNat, Nat.reduceAdd, Nat.reduceLeDiff, Nat.reduceEqDiff, Nat.reduceSub, Nat.reduceMul, reduceCtorEq, encIt, e1, h1]
  have e2 : l.map encIt ++ junk = (l.take (l.length - 1)).map encIt ++ encIt l[l.length - 1]! :: junk := by
    conv => lhs; rw [take_last h]
    simp
  have e3 : (l.take (l.length - 1)).length = l.length - 1 := by simp
  rw [e2, e3]
  exact ⟨rfl, rfl⟩
end Go.Proofs.Ytmmgdilhbkklpaa.X
