import Derived.Test.YtmmgdilhbkklpaaM08D
namespace Go.Proofs.Ytmmgdilhbkklpaa.X
open Go Go.AM Go.Proofs
attribute [local go_sem ↓] w_skip w_lbl w_ops w_draw w_pre w_post w_alt w_seq w_cond w_block w_loop w_exit w_ret w_scope th_n th_e th_r bk_n bk_r bk_e t_nil t_it t_call i_nil i_one i_grp s_nil s_cons c_call e_mv e_frz o_mov o_bin o_eq o_un o_conv o_len o_slen o_idx o_aix o_fad o_load o_store o_boxp o_boxo o_boxm o_alloc o_alloca o_nilarr o_build o_bslp o_bslo o_slc o_sslc o_slc3 o_sidx o_mkfn o_ext o_pick o_callf o_callb o_appd o_clear o_mxn o_field o_nilc o_make o_buildm o_boxg o_mkif o_tass o_eqs o_callo k_int k_str k_bool k_grb k_grt k_some k_none k_arr k_lens k_lenf k_lenh k_idxs k_idxf k_idxh k_ld k_loadp k_loadr k_loade k_storer k_storee k_oin k_ois k_slcs k_slcf k_slch k_slc3s k_slc3f k_slc3h k_app2 k_apps k_appf k_apph k_cals k_cald k_cali k_cnb k_cna k_esn k_esc k_efn k_efc k_esh b_add b_sub b_mul b_quo b_rem b_and b_or b_xor b_andNot b_eql b_neq b_lss b_leq b_gtr b_geq b_shl b_shr b_seq b_sne b_slt b_sad q_bool q_str q_nil q_nilf u_not u_neg u_xor f_ret f_nor v_r v_c v_reg v_ob v_set v_put v_so v_sn v_pn v_pc g_nil d_nil p_nil m_mv m_fr z_nil z_cons z_an z_ac g_cons d_cons p_cons y_mov y_bin y_eq y_un y_conv y_len y_slen y_idx y_aix y_fad y_load y_store y_boxp y_boxo y_boxm y_alloc y_alloca y_nilarr y_build y_bslp y_bslo y_slc y_sslc y_slc3 y_sidx y_mkfn y_ext y_pick y_callf y_callb y_appd y_clear y_mxn y_field y_nilc y_make y_buildm y_boxg y_mkif y_tass y_eqs y_callo nb_if
attribute [local go_sem] VL_mk VL2_mk If_t If_f If_not If_and If_or If_dt If_df If_et If_ef If_ne Ck_t Ck_h Opt_s ld_a ld_c renL ren keepR renA idxM invL getObs mapOb renOb allNone putAll fzR fzO fz fzL fzOb frzOk upFrom mapR resOne resA cellsOf oneA oneAL isP isPL okSt kRows kParts fillA setAt bor bor0 bor1 bor2 borC borI key0 key1 key2 keysA fillM cellsM cellM unif ptrA ifOk kPartsM getObsM allNoneM zipU scal0 scalar eqC evNil evNilF List.map_cons List.map_nil List.cons_append List.nil_append List.append_nil List.drop_zero List.drop_succ_cons List.drop_nil List.take_succ_cons List.take_zero List.take_nil List.length_cons List.length_nil List.length_map List.getElem?_map Option.map_some Option.map_none Int.toNat_natCast Int.toNat_zero Int.toNat_one Int.natCast_nonneg List.flatMap_cons List.flatMap_nil List.all_cons List.all_nil Bool.and_true Bool.true_and Bool.and_false Bool.false_and Bool.not_true Bool.not_false beq_self_eq_true nb_self all_nil List.forall_mem_cons tk_map tk_app bs_self bs_dec bq_t bq_f Bool.not_not decide_true decide_false Bool.not_not and_self and_true true_and eq_self List.reverse_cons List.reverse_nil List.getElem?_cons_zero List.getElem?_cons_succ cond_true cond_false List.set_cons_zero List.set_cons_succ Nat.zero_add Nat.add_zero if_true if_false ite_true ite_false implies_true wrap64 wrap8
set_option linter.unusedVariables false
set_option linter.unusedSimpArgs false
set_option maxRecDepth 10000
theorem C22 (v : Nat) (l : List It) (junk : List (List AV)) (x : It) (hl : l.length < 1000000000) : Ctr Try.prog 22 [.mif 56 (.ref 0 0), .ifc 29 (.agg (encIt x))] (pileO v l junk) (retO [] (pileO (pushV v junk) (pushF l x) (junk.drop 1))) := by
  apply ctr_b A22_ok rfl (Nat.le_of_ble_eq_true rfl)
  unfold A22
  simp only [pileO, initL, Nat.reduceAdd]
  simp (config := {maxSteps := 2000000, implicitDefEqProofs := false}) (disch := omega) only [↓reduceIte, go_sem, Int.reduceToNat, Nat.reduceAdd, Nat.reduceLeDiff, Nat.reduceEqDiff, Nat.reduceSub, Nat.reduceMul, reduceCtorEq, mPush]
  refine callD (C46 v l junk x (by omega)) ?_
  simp (config := {maxSteps := 2000000, implicitDefEqProofs := false}) (disch := omega) only [↓reduceIte, go_sem, Int.reduceToNat, Nat.reduceAdd, Nat.reduceLeDiff, Nat.reduceEqDiff, Nat.reduceSub, Nat.reduceMul, reduceCtorEq, pileO, mLen]
  refine callL (C25 (l ++ [x])) ?_
  have el : ((l ++ [x]).length : Int) = l.length + 1 := by simp
  simp (config := {maxSteps := 2000000, implicitDefEqProofs := false}) (disch := omega) only [↓reduceIte, go_sem, Int.reduceToNat, Nat.reduceAdd, Nat.reduceLeDiff, Nat.reduceEqDiff, Nat.reduceSub, Nat.reduceMul, reduceCtorEq, el]
  refine callD (C27 (pushV v junk) (l ++ [x]) (junk.drop 1) l.length _ (by omega) (by simp) (by simp; omega)) ?_
  simp (config := {maxSteps := 2000000, implicitDefEqProofs := false}) (disch := omega) only [↓reduceIte, go_sem, Int.reduceToNat, Nat.reduceAdd, Nat.reduceLeDiff, Nat.reduceEqDiff, Nat.reduceSub, Nat.reduceMul, reduceCtorEq, pileO]
  exact ⟨rfl, rfl⟩
theorem C23 (v : Nat) (l : List It) (junk : List (List AV)) (h : 0 < l.length) (hl : l.length < 1000000000) : Ctr Try.prog 23 [.mif 56 (.ref 0 0)] (pileO v l junk) (retO [.ifc 29 (.agg (encIt l[0]!))] (pileO v ((popF l).take (l.length - 1)) (encIt l[0]! :: junk))) := by
  apply ctr_b A23_ok rfl (Nat.le_of_ble_eq_true rfl)
  unfold A23
  simp only [pileO, initL, Nat.reduceAdd]
  simp (config := {maxSteps := 2000000, implicitDefEqProofs := false}) (disch := omega) only [↓reduceIte, go_sem, Int.reduceToNat, Nat.reduceAdd, Nat.reduceLeDiff, Nat.reduceEqDiff, Nat.reduceSub, Nat.reduceMul, reduceCtorEq, mLen]
  refine callL (C25 l) ?_
  simp (config := {maxSteps := 2000000, implicitDefEqProofs := false}) (disch := omega) only [↓reduceIte, go_sem, Int.reduceToNat, Nat.reduceAdd, Nat.reduceLeDiff, Nat.reduceEqDiff, Nat.reduceSub, Nat.reduceMul, reduceCtorEq, mSwap]
  refine callD (C47' v l junk 0 (l.length - 1) _ _ h (by omega) rfl (by omega)) ?_
  simp (config := {maxSteps := 2000000, implicitDefEqProofs := false}) (disch := omega) only [↓reduceIte, go_sem, Int.reduceToNat, Nat.reduceAdd, Nat.reduceLeDiff, Nat.reduceEqDiff, Nat.reduceSub, Nat.reduceMul, reduceCtorEq, pileO]
  refine callD (C26' v (swp l 0 (l.length - 1)) junk 0 (l.length - 1) _ _ rfl (by omega) (by rw [swp_len]; omega) (by omega) (by rw [swp_len]; omega)) ?_
  simp (config := {maxSteps := 2000000, implicitDefEqProofs := false}) (disch := omega) only [↓reduceIte, go_sem, Int.reduceToNat, Nat.reduceAdd, Nat.reduceLeDiff, Nat.reduceEqDiff, Nat.reduceSub, Nat.reduceMul, reduceCtorEq, pileO, mPop]
  refine callD (C45 v (popF l) junk (by rw [popF_len]; exact h) (by rw [popF_len]; omega)) ?_
  simp (config := {maxSteps := 2000000, implicitDefEqProofs := false}) (disch := omega) only [↓reduceIte, go_sem, Int.reduceToNat, Nat.reduceAdd, Nat.reduceLeDiff, Nat.reduceEqDiff, Nat.reduceSub, Nat.reduceMul, reduceCtorEq, pileO]
  rw [popF_len, popF_last h]
  exact ⟨rfl, rfl⟩
theorem C18 (l : List It) (hl : l.length < 1000000000) : Ctr Try.prog 18 [.sl (l.map encIt)] [] (fun r o => ∃ v, r = [.hs 0 v 0 l.length] ∧ o = [.arr v 2 (l.map encIt)]) := by
  apply ctr_b A18_ok rfl (Nat.le_of_ble_eq_true rfl)
  unfold A18
  simp only [initL, Nat.reduceAdd]
  cases l with
  | nil =>
    simp (config := {maxSteps := 2000000, implicitDefEqProofs := false}) (disch := omega) only [↓reduceIte, go_sem, Int.reduceToNat, Nat.reduceAdd, Nat.reduceLeDiff, Nat.reduceEqDiff, Nat.reduceSub, Nat.reduceMul, reduceCtorEq]
    exact ⟨⟨_, rfl, rfl⟩, ⟨_, rfl, rfl⟩⟩
  | cons x l =>
    simp (config := {maxSteps := 2000000, implicitDefEqProofs := false}) (disch := omega) only [↓reduceIte, go_sem, Int.reduceToNat, Nat.reduceAdd, Nat.reduceLeDiff, Nat.reduceEqDiff, Nat.reduceSub, Nat.reduceMul, reduceCtorEq]
    refine ckL ⟨rfl, fun y hy => ?_⟩ ?_
    · obtain ⟨z, _, rfl⟩ := List.mem_map.1 hy
      rfl
    · simp only [List.length_cons] at hl
      simp (config := {maxSteps := 2000000, implicitDefEqProofs := false}) (disch := omega) only [↓reduceIte, go_sem, Int.reduceToNat, Nat.reduceAdd, Nat.reduceLeDiff, Nat.reduceEqDiff, Nat.reduceSub, Nat.reduceMul, reduceCtorEq]
      exact ⟨_, rfl, rfl⟩
theorem C7 (l : List It) (hl : l.length < 1000000000) : Ctr Try.prog 7 [.sl (l.map encIt)] [] (fun r o => ∃ v, r = [.ref 0 0] ∧ o = pileO v (heapify l) []) := by
  apply ctr_b A7_ok rfl (Nat.le_of_ble_eq_true rfl)
  unfold A7
  simp only [initL, Nat.reduceAdd]
  simp (config := {maxSteps := 2000000, implicitDefEqProofs := false}) (disch := omega) only [↓reduceIte, go_sem, Int.reduceToNat, Nat.reduceAdd, Nat.reduceLeDiff, Nat.reduceEqDiff, Nat.reduceSub, Nat.reduceMul, reduceCtorEq]
  refine callO (C18 l hl) ?_
  rintro r o ⟨v, rfl, rfl⟩
  simp (config := {maxSteps := 2000000, implicitDefEqProofs := false}) (disch := omega) only [↓reduceIte, go_sem, Int.reduceToNat, Nat.reduceAdd, Nat.reduceLeDiff, Nat.reduceEqDiff, Nat.reduceSub, Nat.reduceMul, reduceCtorEq]
  have h20 := C20 v l [] (by omega)
  simp only [pileO, List.append_nil] at h20
  refine callD h20 ?_
  simp (config := {maxSteps := 2000000, implicitDefEqProofs := false}) (disch := omega) only [↓reduceIte, go_sem, Int.reduceToNat, Nat.reduceAdd, Nat.reduceLeDiff, Nat.reduceEqDiff, Nat.reduceSub, Nat.reduceMul, reduceCtorEq, pileO]
  exact ⟨v, by simp [pileO]⟩
theorem C10 (v : Nat) (l : List It) (junk : List (List AV)) (x : It) (hl : l.length < 1000000000) : Ctr Try.prog 10 [.ref 0 0, .agg (encIt x)] (pileO v l junk) (retO [] (pileO (pushV v junk) (pushF l x) (junk.drop 1))) := by
  apply ctr_b A10_ok rfl (Nat.le_of_ble_eq_true rfl)
  unfold A10
  simp only [pileO, initL, Nat.reduceAdd]
  simp (config := {maxSteps := 2000000, implicitDefEqProofs := false}) (disch := omega) only [↓reduceIte, go_sem, Int.reduceToNat, Nat.reduceAdd, Nat.reduceLeDiff, Nat.reduceEqDiff, Nat.reduceSub, Nat.reduceMul, reduceCtorEq, encIt]
  refine callL (C21 l) ?_
  simp (config := {maxSteps := 2000000, implicitDefEqProofs := false}) (disch := omega) only [↓reduceIte, go_sem, Int.reduceToNat, Nat.reduceAdd, Nat.reduceLeDiff, Nat.reduceEqDiff, Nat.reduceSub, Nat.reduceMul, reduceCtorEq, encIt]
  refine callD (C22 v l junk x hl) ?_
  simp (config := {maxSteps := 2000000, implicitDefEqProofs := false}) (disch := omega) only [↓reduceIte, go_sem, Int.reduceToNat, Nat.reduceAdd, Nat.reduceLeDiff, Nat.reduceEqDiff, Nat.reduceSub, Nat.reduceMul, reduceCtorEq, pileO]
  refine accL (by kernel_rfl) ?_
  simp (config := {maxSteps := 2000000, implicitDefEqProofs := false}) (disch := omega) only [↓reduceIte, go_sem, Int.reduceToNat, Nat.reduceAdd, Nat.reduceLeDiff, Nat.reduceEqDiff, Nat.reduceSub, Nat.reduceMul, reduceCtorEq]
  exact ⟨rfl, rfl⟩
theorem C11 (v : Nat) (l : List It) (junk : List (List AV)) (h : 0 < l.length) (hl : l.length < 1000000000) : Ctr Try.prog 11 [.ref 0 0] (pileO v l junk) (retO [.agg (encIt l[0]!), .bool true] (pileO v ((popF l).take (l.length - 1)) (encIt l[0]! :: junk))) := by
  apply ctr_b A11_ok rfl (Nat.le_of_ble_eq_true rfl)
  unfold A11
  simp only [pileO, initL, Nat.reduceAdd]
  simp (config := {maxSteps := 2000000, implicitDefEqProofs := false}) (disch := omega) only [↓reduceIte, go_sem, Int.reduceToNat, Nat.reduceAdd, Nat.reduceLeDiff, Nat.reduceEqDiff, Nat.reduceSub, Nat.reduceMul, reduceCtorEq]
  refine callL (C17 l) ?_
  simp (config := {maxSteps := 2000000, implicitDefEqProofs := false}) (disch := omega) only [↓reduceIte, go_sem, Int.reduceToNat, Nat.reduceAdd, Nat.reduceLeDiff, Nat.reduceEqDiff, Nat.reduceSub, Nat.reduceMul, reduceCtorEq]
  refine callD (C23 v l junk h hl) ?_
  simp (config := {maxSteps := 2000000, implicitDefEqProofs := false}) (disch := omega) only [↓reduceIte, go_sem, Int.reduceToNat, Nat.reduceAdd, Nat.reduceLeDiff, Nat.reduceEqDiff, Nat.reduceSub, Nat.reduceMul, reduceCtorEq, pileO, encIt]
  exact ⟨rfl, rfl⟩
theorem C11e (v : Nat) (junk : List (List AV)) : Ctr Try.prog 11 [.ref 0 0] (pileO v [] junk) (retO [.agg (encIt ⟨0, 0⟩), .bool false] (pileO v [] junk)) := by
  apply ctr_b A11_ok rfl (Nat.le_of_ble_eq_true rfl)
  unfold A11
  simp only [pileO, initL, Nat.reduceAdd]
  simp (config := {maxSteps := 2000000, implicitDefEqProofs := false}) (disch := omega) only [↓reduceIte, go_sem, Int.reduceToNat, Nat.reduceAdd, Nat.reduceLeDiff, Nat.reduceEqDiff, Nat.reduceSub, Nat.reduceMul, reduceCtorEq]
  refine callL (C17 []) ?_
  simp (config := {maxSteps := 2000000, implicitDefEqProofs := false}) (disch := omega) only [↓reduceIte, go_sem, Int.reduceToNat, Nat.reduceAdd, Nat.reduceLeDiff, Nat.reduceEqDiff, Nat.reduceSub, Nat.reduceMul, reduceCtorEq]
  exact ⟨rfl, rfl⟩
def chg (value key : Int) (x : It) : It := if x.value = value then ⟨key, x.value⟩ else x
def cnt (value : Int) (l : List It) : Nat := l.countP fun x => decide (x.value = value)
theorem C14 (v : Nat) (l : List It) (junk : List (List AV)) (a k : Int) (hl : l.length < 1000000000) : Ctr Try.prog 14 [.ref 0 0, .int .i64 a, .int .i64 k] (pileO v l junk) (retO [.int .i64 (cnt a l)] (pileO v (heapify (l.map (chg a k))) junk)) := by
  apply ctr_b A14_ok rfl (Nat.le_of_ble_eq_true rfl)
  unfold A14
  simp only [pileO, initL, Nat.reduceAdd]
  simp (config := {maxSteps := 2000000, implicitDefEqProofs := false}) (disch := omega) only [↓reduceIte, go_sem, Int.reduceToNat, Nat.reduceAdd, Nat.reduceLeDiff, Nat.reduceEqDiff, Nat.reduceSub, Nat.reduceMul, reduceCtorEq]
  refine callL (C21 l) ?_
  simp (config := {maxSteps := 2000000, implicitDefEqProofs := false}) (disch := omega) only [↓reduceIte, go_sem, Int.reduceToNat, Nat.reduceAdd, Nat.reduceLeDiff, Nat.reduceEqDiff, Nat.reduceSub, Nat.reduceMul, reduceCtorEq]
  refine loopL (σ := Nat × List It) (fun s => ⟨[(0, .ref 0 0), (1, .int .i64 a), (2, .int .i64 k), (7, .int .i64 (cnt a (l.take s.1))), (17, .int .i64 l.length), (18, .int .i64 s.1)], [(0, .box [.hs 1 v 0 s.2.length, .fn 19 []]), (1, .arr v 2 (s.2.map encIt ++ junk))]⟩)
    (fun s => s.1 ≤ l.length ∧ s.2 = (l.take s.1).map (chg a k) ++ l.drop s.1) (fun s => l.length - s.1) (0, l) (by simp (config := {maxSteps := 2000000, implicitDefEqProofs := false}) (disch := omega) only [↓reduceIte, go_sem, Int.reduceToNat, Nat.reduceAdd, Nat.reduceLeDiff, Nat.reduceEqDiff, Nat.reduceSub, Nat.reduceMul, reduceCtorEq]; simp [cnt]) ⟨Nat.zero_le _, by simp⟩ ?_
  rintro ⟨s, l'⟩ ⟨hs, hl'⟩
  simp only at hs hl'
  have hlen : l'.length = l.length := by rw [hl']; simp; omega
  simp (config := {maxSteps := 2000000, implicitDefEqProofs := false}) (disch := omega) only [↓reduceIte, go_sem, Int.reduceToNat, Nat.reduceAdd, Nat.reduceLeDiff, Nat.reduceEqDiff, Nat.reduceSub, Nat.reduceMul, reduceCtorEq]
  refine ifD (fun g => ?_) (fun g => ?_)
  · obtain ⟨x, hx⟩ : ∃ x, l[s]? = some x := ⟨_, List.getElem?_eq_getElem (by omega)⟩
    have hd : l.drop s = x :: l.drop (s + 1) := by
      rw [List.drop_eq_getElem_cons (by omega)]
      rw [List.getElem?_eq_getElem (by omega)] at hx
      rw [Option.some.inj hx]
    have ht : l.take (s + 1) = l.take s ++ [x] := by rw [List.take_add_one, hx]; rfl
    have hc : cnt a (l.take (s + 1)) = cnt a (l.take s) + if x.value = a then 1 else 0 := by
      rw [ht, cnt, cnt, List.countP_append]
      by_cases e : x.value = a <;> simp [e]
    have hcl : cnt a (l.take s) ≤ l.length := Nat.le_trans List.countP_le_length (by simp; omega)
    have h1 : (l'.map encIt ++ junk)[s]? = some (encIt x) := by
      rw [app_at (by omega)]
      have : l'[s]? = some x := by
        rw [hl', List.getElem?_append_right (by simp; omega), hd]
        simp [Nat.min_eq_left hs]
      have h2 := bang (l := l') (i := s) (by omega)
      rw [this] at h2
      rw [Option.some.inj h2]
    have hset : ∀ y, l'.set s y = (l.take s).map (chg a k) ++ y :: l.drop (s + 1) := by
      intro y
      rw [hl', hd, List.set_append_right _ _ (by simp; omega)]
      simp [Nat.min_eq_left hs]
    simp (config := {maxSteps := 2000000, implicitDefEqProofs := false}) (disch := omega) only [↓reduceIte, go_sem, Int.reduceToNat, Nat.reduceAdd, Nat.reduceLeDiff, Nat.reduceEqDiff, Nat.reduceSub, Nat.reduceMul, reduceCtorEq, h1, encIt]
    refine ifE (fun g2 => ?_) (fun g2 => ?_)
    · have h3 : (l'.map encIt ++ junk).set s [.int .i64 k, .int .i64 x.value] = (l'.set s ⟨k, x.value⟩).map encIt ++ junk := by
        rw [List.set_append_left _ _ (by simp; omega), List.map_set]
        rfl
      simp only [encIt] at h1 h3
      simp (config := {maxSteps := 2000000, implicitDefEqProofs := false}) (disch := omega) only [↓reduceIte, go_sem, Int.reduceToNat, Nat.reduceAdd, Nat.reduceLeDiff, Nat.reduceEqDiff, Nat.reduceSub, Nat.reduceMul, reduceCtorEq, h1, encIt, h3]
      refine ⟨(s + 1, l'.set s ⟨k, x.value⟩), ?_, ⟨by simp only; omega, ?_⟩, by simp only; omega⟩
      · simp [hc, g2]
      · simp only
        rw [hset, ht]
        simp [chg, g2]
    · simp (config := {maxSteps := 2000000, implicitDefEqProofs := false}) (disch := omega) only [↓reduceIte, go_sem, Int.reduceToNat, Nat.reduceAdd, Nat.reduceLeDiff, Nat.reduceEqDiff, Nat.reduceSub, Nat.reduceMul, reduceCtorEq]
      refine ⟨(s + 1, l'), ?_, ⟨by simp only; omega, ?_⟩, by simp only; omega⟩
      · simp [hc, g2]
      · simp only
        rw [hl', ht, hd]
        simp [chg, g2]
  · have e1 : s = l.length := by omega
    subst e1
    rw [List.take_length, List.drop_length, List.append_nil] at hl'
    subst hl'
    simp (config := {maxSteps := 2000000, implicitDefEqProofs := false}) (disch := omega) only [↓reduceIte, go_sem, Int.reduceToNat, Nat.reduceAdd, Nat.reduceLeDiff, Nat.reduceEqDiff, Nat.reduceSub, Nat.reduceMul, reduceCtorEq, List.take_length]
    have h20 := C20 v (l.map (chg a k)) junk (by omega)
    simp only [pileO, List.length_map] at h20
    refine callD h20 ?_
    simp (config := {maxSteps := 2000000, implicitDefEqProofs := false}) (disch := omega) only [↓reduceIte, go_sem, Int.reduceToNat, Nat.reduceAdd, Nat.reduceLeDiff, Nat.reduceEqDiff, Nat.reduceSub, Nat.reduceMul, reduceCtorEq, pileO]
    exact ⟨by rw [List.take_length], rfl⟩
end Go.Proofs.Ytmmgdilhbkklpaa.X
