import Derived.Test.YtmmgdilhbkklpaaM08J
namespace Go.Proofs.Ytmmgdilhbkklpaa.X
open Go Go.AM Go.Proofs
attribute [local go_sem ↓] w_skip w_lbl w_ops w_draw w_pre w_post w_alt w_seq w_cond w_block w_loop w_exit w_ret w_scope th_n th_e th_r bk_n bk_r bk_e t_nil t_it t_call i_nil i_one i_grp s_nil s_cons c_call e_mv e_frz o_mov o_bin o_eq o_un o_conv o_len o_slen o_idx o_aix o_fad o_load o_store o_boxp o_boxo o_boxm o_alloc o_alloca o_nilarr o_build o_bslp o_bslo o_slc o_sslc o_slc3 o_sidx o_mkfn o_ext o_pick o_callf o_callb o_appd o_clear o_mxn o_field o_nilc o_make o_buildm o_boxg o_mkif o_tass o_eqs o_callo k_int k_str k_bool k_grb k_grt k_some k_none k_arr k_lens k_lenf k_lenh k_idxs k_idxf k_idxh k_ld k_loadp k_loadr k_loade k_storer k_storee k_oin k_ois k_slcs k_slcf k_slch k_slc3s k_slc3f k_slc3h k_app2 k_apps k_appf k_apph k_cals k_cald k_cali k_cnb k_cna k_esn k_esc k_efn k_efc k_esh b_add b_sub b_mul b_quo b_rem b_and b_or b_xor b_andNot b_eql b_neq b_lss b_leq b_gtr b_geq b_shl b_shr b_seq b_sne b_slt b_sad q_bool q_str q_nil q_nilf u_not u_neg u_xor f_ret f_nor v_r v_c v_reg v_ob v_set v_put v_so v_sn v_pn v_pc g_nil d_nil p_nil m_mv m_fr z_nil z_cons z_an z_ac g_cons d_cons p_cons y_mov y_bin y_eq y_un y_conv y_len y_slen y_idx y_aix y_fad y_load y_store y_boxp y_boxo y_boxm y_alloc y_alloca y_nilarr y_build y_bslp y_bslo y_slc y_sslc y_slc3 y_sidx y_mkfn y_ext y_pick y_callf y_callb y_appd y_clear y_mxn y_field y_nilc y_make y_buildm y_boxg y_mkif y_tass y_eqs y_callo nb_if
attribute [local go_sem] VL_mk VL2_mk If_t If_f If_not If_and If_or If_dt If_df If_et If_ef If_ne Ck_t Ck_h Opt_s ld_a ld_c renL ren keepR renA idxM invL getObs mapOb renOb allNone putAll fzR fzO fz fzL fzOb frzOk upFrom mapR resOne resA cellsOf oneA oneAL isP isPL okSt kRows kParts fillA setAt bor bor0 bor1 bor2 borC borI key0 key1 key2 keysA fillM cellsM cellM unif ptrA ifOk kPartsM getObsM allNoneM zipU scal0 scalar eqC evNil evNilF List.map_cons List.map_nil List.cons_append List.nil_append List.append_nil List.drop_zero List.drop_succ_cons List.drop_nil List.take_succ_cons List.take_zero List.take_nil List.length_cons List.length_nil List.length_map List.getElem?_map Option.map_some Option.map_none Int.toNat_natCast Int.toNat_zero Int.toNat_one Int.natCast_nonneg List.flatMap_cons List.flatMap_nil List.all_cons List.all_nil Bool.and_true Bool.true_and Bool.and_false Bool.false_and Bool.not_true Bool.not_false beq_self_eq_true nb_self all_nil List.forall_mem_cons tk_map tk_app bs_self bs_dec bq_t bq_f Bool.not_not decide_true decide_false Bool.not_not and_self and_true true_and eq_self List.reverse_cons List.reverse_nil List.getElem?_cons_zero List.getElem?_cons_succ cond_true cond_false List.set_cons_zero List.set_cons_succ Nat.zero_add Nat.add_zero if_true if_false ite_true ite_false implies_true wrap64 wrap8
set_option linter.unusedVariables false
set_option linter.unusedSimpArgs false
set_option maxRecDepth 10000
theorem A12_ok1 : okFun Try.prog 12 29 1 A12 [.cell 2 2 true, .tmp 3, .tmp 4] [] = true := by kernel_rfl
theorem A15_ok1 : okFun Try.prog 15 29 1 A15 [.tmp 4, .tmp 5] [] = true := by kernel_rfl
theorem C12e (v : Nat) : Ctr Try.prog 12 [.hs 0 v 0 0] [.arr v 2 []] (retO [.agg (encIt ⟨0, 0⟩), .hs 0 v 0 0, .bool false] [.arr v 2 []]) := by
  apply ctr_b A12_ok1 rfl (Nat.le_of_ble_eq_true rfl)
  unfold A12
  simp only [initL, Nat.reduceAdd]
  have h24 : Ctr Try.prog 24 [.sl []] [] (ret [.int .i64 (-1)]) := C24 [] (by decide)
  simp (config := {maxSteps := 2000000, implicitDefEqProofs := false}) (disch := omega) only [↓reduceIte, go_sem, Int.reduceToNat, Nat.reduceAdd, Nat.reduceLeDiff, Nat.reduceEqDiff, Nat.reduceSub, Nat.reduceMul, reduceCtorEq]
  refine callL h24 ?_
  simp (config := {maxSteps := 2000000, implicitDefEqProofs := false}) (disch := omega) only [↓reduceIte, go_sem, Int.reduceToNat, Nat.reduceAdd, Nat.reduceLeDiff, Nat.reduceEqDiff, Nat.reduceSub, Nat.reduceMul, reduceCtorEq]
  exact ⟨rfl, rfl⟩
def best (l : List It) : It := l[fst l]!
def rst (l : List It) : List It := l.eraseIdx (fst l)
theorem fst_lt {l : List It} (h : 0 < l.length) : fst l < l.length := by have := fI_le l (l.length - 1); unfold fst; omega
theorem rst_len {l : List It} (h : 0 < l.length) : (rst l).length = l.length - 1 := List.length_eraseIdx_of_lt (fst_lt h)
theorem C12 (v : Nat) (l : List It) (h : 0 < l.length) (hl : l.length < 1000000) : Ctr Try.prog 12 [.hs 0 v 0 l.length] [.arr v 2 (l.map encIt)]
    (retO [.agg (encIt (best l)), .hs 1 2 0 (rst l).length, .bool true] [.arr v 2 (l.map encIt), .arr 2 2 ((rst l).map encIt)]) := by
  apply ctr_b A12_ok rfl (Nat.le_of_ble_eq_true rfl)
  unfold A12
  simp only [initL, Nat.reduceAdd]
  simp (config := {maxSteps := 2000000, implicitDefEqProofs := false}) (disch := omega) only [↓reduceIte, go_sem, Int.reduceToNat, Nat.reduceAdd, Nat.reduceLeDiff, Nat.reduceEqDiff, Nat.reduceSub, Nat.reduceMul, reduceCtorEq]
  have h24 := C24 l (by omega)
  rw [if_neg (by omega)] at h24
  refine callL h24 ?_
  have hf := fst_lt h
  have hb : l[fst l]? = some (best l) := bang hf
  have hr : rst l = l.take (fst l) ++ l.drop (fst l + 1) := List.eraseIdx_eq_take_drop_succ ..
  generalize fst l = k at hf hb hr
  have e1 : (l.map encIt).take k = (l.take k).map encIt := by rw [List.map_take]
  have e2 : (l.map encIt).drop (k + 1) = (l.drop (k + 1)).map encIt := by rw [List.map_drop]
  have e3 : ((k : Int) + 1).toNat = k + 1 := by omega
  simp (config := {maxSteps := 2000000, implicitDefEqProofs := false}) (disch := omega) only [↓reduceIte, go_sem, Int.reduceToNat, Nat.reduceAdd, Nat.reduceLeDiff, Nat.reduceEqDiff, Nat.reduceSub, Nat.reduceMul, reduceCtorEq, e1, e2, e3, Nat.sub_zero, Int.toNat_zero, List.length_take, List.length_drop, hb, encIt]
  have e4 : min k l.length + min (l.length - (k + 1)) (l.length - (k + 1)) = (rst l).length := by
    rw [rst_len h]
    omega
  have e5 : ((l.drop (k + 1)).map encIt).take (l.length - (k + 1)) = (l.drop (k + 1)).map encIt := by
    rw [List.take_of_length_le]
    simp
  rw [e4, e5, ← List.map_append, ← hr]
  exact ⟨rfl, rfl⟩
theorem C13 (v : Nat) (l : List It) (a k : Int) (hl : l.length < 1000000) : Ctr Try.prog 13 [.hs 0 v 0 l.length, .int .i64 a, .int .i64 k] [.arr v 2 (l.map encIt)]
    (retO [.hs 1 l.length 0 l.length, .int .i64 (cnt a l)] [.arr v 2 (l.map encIt), .arr l.length 2 ((l.map (chg a k)).map encIt)]) := by
  apply ctr_b A13_ok rfl (Nat.le_of_ble_eq_true rfl)
  unfold A13
  simp only [initL, Nat.reduceAdd]
  simp (config := {maxSteps := 2000000, implicitDefEqProofs := false}) (disch := omega) only [↓reduceIte, go_sem, Int.reduceToNat, Nat.reduceAdd, Nat.reduceLeDiff, Nat.reduceEqDiff, Nat.reduceSub, Nat.reduceMul, reduceCtorEq]
  refine loopL (σ := Nat) (fun s => ⟨[(0, .hs 0 v 0 l.length), (1, .int .i64 a), (2, .int .i64 k), (8, .hs 8 s 0 (l.take s).length), (9, .int .i64 (cnt a (l.take s))), (10, .int .i64 s)], [(0, .arr v 2 (l.map encIt)), (8, .arr s 2 (((l.take s).map (chg a k)).map encIt))]⟩)
    (fun s => s ≤ l.length) (fun s => l.length - s) 0 (by simp (config := {maxSteps := 2000000, implicitDefEqProofs := false}) (disch := omega) only [↓reduceIte, go_sem, Int.reduceToNat, Nat.reduceAdd, Nat.reduceLeDiff, Nat.reduceEqDiff, Nat.reduceSub, Nat.reduceMul, reduceCtorEq]; simp [cnt]) (Nat.zero_le _) ?_
  intro s hs
  simp (config := {maxSteps := 2000000, implicitDefEqProofs := false}) (disch := omega) only [↓reduceIte, go_sem, Int.reduceToNat, Nat.reduceAdd, Nat.reduceLeDiff, Nat.reduceEqDiff, Nat.reduceSub, Nat.reduceMul, reduceCtorEq]
  refine ifD (fun g => ?_) (fun g => ?_)
  · obtain ⟨x, hx⟩ : ∃ x, l[s]? = some x := ⟨_, List.getElem?_eq_getElem (by omega)⟩
    have ht : l.take (s + 1) = l.take s ++ [x] := by rw [List.take_add_one, hx]; rfl
    have hc : cnt a (l.take (s + 1)) = cnt a (l.take s) + if x.value = a then 1 else 0 := by
      rw [ht, cnt, cnt, List.countP_append]
      by_cases e : x.value = a <;> simp [e]
    have hcl : cnt a (l.take s) ≤ l.length := Nat.le_trans List.countP_le_length (by simp; omega)
    have hlt : (l.take s).length = s := by rw [List.length_take]; omega
    simp (config := {maxSteps := 2000000, implicitDefEqProofs := false}) (disch := omega) only [↓reduceIte, go_sem, Int.reduceToNat, Nat.reduceAdd, Nat.reduceLeDiff, Nat.reduceEqDiff, Nat.reduceSub, Nat.reduceMul, reduceCtorEq, hx, encIt, hlt]
    refine ifE (fun g2 => ?_) (fun g2 => ?_)
    · simp (config := {maxSteps := 2000000, implicitDefEqProofs := false}) (disch := omega) only [↓reduceIte, go_sem, Int.reduceToNat, Nat.reduceAdd, Nat.reduceLeDiff, Nat.reduceEqDiff, Nat.reduceSub, Nat.reduceMul, reduceCtorEq, hlt]
      have h2 : (l.take (s + 1)).length = s + 1 := by rw [List.length_take]; omega
      refine ⟨s + 1, ?_, by omega, by omega⟩
      rw [hc, h2, ht]
      simp [chg, g2, encIt]
    · simp (config := {maxSteps := 2000000, implicitDefEqProofs := false}) (disch := omega) only [↓reduceIte, go_sem, Int.reduceToNat, Nat.reduceAdd, Nat.reduceLeDiff, Nat.reduceEqDiff, Nat.reduceSub, Nat.reduceMul, reduceCtorEq, hlt]
      have h2 : (l.take (s + 1)).length = s + 1 := by rw [List.length_take]; omega
      refine ⟨s + 1, ?_, by omega, by omega⟩
      rw [hc, h2, ht]
      simp [chg, g2, encIt]
  · have e1 : s = l.length := by omega
    subst e1
    simp (config := {maxSteps := 2000000, implicitDefEqProofs := false}) (disch := omega) only [↓reduceIte, go_sem, Int.reduceToNat, Nat.reduceAdd, Nat.reduceLeDiff, Nat.reduceEqDiff, Nat.reduceSub, Nat.reduceMul, reduceCtorEq, List.take_length]
    exact ⟨rfl, rfl⟩
theorem C15n (v : Nat) (l : List It) (n : Int) (h : n ≤ 0 ∨ l = []) : Ctr Try.prog 15 [.hs 0 v 0 l.length, .int .i64 n] [.arr v 2 (l.map encIt)]
    (retO [.sl [], .hs 0 v 0 l.length] [.arr v 2 (l.map encIt)]) := by
  apply ctr_b A15_ok1 rfl (Nat.le_of_ble_eq_true rfl)
  unfold A15
  simp only [initL, Nat.reduceAdd]
  simp (config := {maxSteps := 2000000, implicitDefEqProofs := false}) (disch := omega) only [↓reduceIte, go_sem, Int.reduceToNat, Nat.reduceAdd, Nat.reduceLeDiff, Nat.reduceEqDiff, Nat.reduceSub, Nat.reduceMul, reduceCtorEq]
  refine loopL (σ := Unit) (fun s => ⟨[(0, .hs 0 v 0 l.length), (1, .int .i64 n), (6, .hs 6 0 0 0)], [(0, .arr v 2 (l.map encIt)), (6, .arr 0 2 [])]⟩) (fun s => True) (fun s => 0) () (by simp (config := {maxSteps := 2000000, implicitDefEqProofs := false}) (disch := omega) only [↓reduceIte, go_sem, Int.reduceToNat, Nat.reduceAdd, Nat.reduceLeDiff, Nat.reduceEqDiff, Nat.reduceSub, Nat.reduceMul, reduceCtorEq]) trivial ?_
  rintro - -
  simp (config := {maxSteps := 2000000, implicitDefEqProofs := false}) (disch := omega) only [↓reduceIte, go_sem, Int.reduceToNat, Nat.reduceAdd, Nat.reduceLeDiff, Nat.reduceEqDiff, Nat.reduceSub, Nat.reduceMul, reduceCtorEq]
  refine ifD (fun g => ?_) (fun g => ?_)
  · rcases h with h | rfl
    · omega
    · simp (config := {maxSteps := 2000000, implicitDefEqProofs := false}) (disch := omega) only [↓reduceIte, go_sem, Int.reduceToNat, Nat.reduceAdd, Nat.reduceLeDiff, Nat.reduceEqDiff, Nat.reduceSub, Nat.reduceMul, reduceCtorEq]
      refine altR (altR (altL ?_))
      simp (config := {maxSteps := 2000000, implicitDefEqProofs := false}) (disch := omega) only [↓reduceIte, go_sem, Int.reduceToNat, Nat.reduceAdd, Nat.reduceLeDiff, Nat.reduceEqDiff, Nat.reduceSub, Nat.reduceMul, reduceCtorEq]
      refine callO (C12e v) ?_
      rintro r o ⟨rfl, rfl⟩
      simp (config := {maxSteps := 2000000, implicitDefEqProofs := false}) (disch := omega) only [↓reduceIte, go_sem, Int.reduceToNat, Nat.reduceAdd, Nat.reduceLeDiff, Nat.reduceEqDiff, Nat.reduceSub, Nat.reduceMul, reduceCtorEq, encIt]
      exact ⟨rfl, rfl⟩
  · simp (config := {maxSteps := 2000000, implicitDefEqProofs := false}) (disch := omega) only [↓reduceIte, go_sem, Int.reduceToNat, Nat.reduceAdd, Nat.reduceLeDiff, Nat.reduceEqDiff, Nat.reduceSub, Nat.reduceMul, reduceCtorEq]
    exact ⟨rfl, rfl⟩
/-- What n pops tell, and what is left: the plain row's. -/
def rdrain : Nat → List It → List It × List It
  | 0, l => ([], l)
  | n + 1, l => if l.length = 0 then ([], l) else (best l :: (rdrain n (rst l)).1, (rdrain n (rst l)).2)
theorem C15 (v : Nat) (l : List It) (n : Int) (hn : 0 < n) (h0 : 0 < l.length) (hl : l.length < 1000000) : Ctr Try.prog 15 [.hs 0 v 0 l.length, .int .i64 n] [.arr v 2 (l.map encIt)]
    (retO [.sl ((rdrain n.toNat l).1.map encIt), .hs 1 2 0 (rdrain n.toNat l).2.length] [.arr v 2 (l.map encIt), .arr 2 2 ((rdrain n.toNat l).2.map encIt)]) := by
  apply ctr_b A15_ok rfl (Nat.le_of_ble_eq_true rfl)
  unfold A15
  simp only [initL, Nat.reduceAdd]
  simp (config := {maxSteps := 2000000, implicitDefEqProofs := false}) (disch := omega) only [↓reduceIte, go_sem, Int.reduceToNat, Nat.reduceAdd, Nat.reduceLeDiff, Nat.reduceEqDiff, Nat.reduceSub, Nat.reduceMul, reduceCtorEq]
  refine loopL (σ := Bool × Nat × List It × List It) (fun s => match s with
    | (true, _) => ⟨[(0, .hs 0 v 0 l.length), (1, .int .i64 n), (6, .hs 6 0 0 0)], [(0, .arr v 2 (l.map encIt)), (6, .arr 0 2 [])]⟩
    | (false, k, out, cur) => ⟨[(0, .hs 8 2 0 cur.length), (1, .int .i64 n), (6, .hs 6 out.length 0 out.length)], [(0, .arr v 2 (l.map encIt)), (6, .arr out.length 2 (out.map encIt)), (8, .arr 2 2 (cur.map encIt))]⟩)
    (fun s => s.1 = true ∧ s.2.1 = n.toNat ∨ s.1 = false ∧ s.2.2.1.length + s.2.1 = n.toNat ∧ s.2.2.1.length + s.2.2.2.length ≤ l.length ∧ rdrain n.toNat l = (s.2.2.1 ++ (rdrain s.2.1 s.2.2.2).1, (rdrain s.2.1 s.2.2.2).2)) (fun s => s.2.1)
    (true, n.toNat, [], []) (by simp (config := {maxSteps := 2000000, implicitDefEqProofs := false}) (disch := omega) only [↓reduceIte, go_sem, Int.reduceToNat, Nat.reduceAdd, Nat.reduceLeDiff, Nat.reduceEqDiff, Nat.reduceSub, Nat.reduceMul, reduceCtorEq]) (.inl ⟨rfl, rfl⟩) ?_
  rintro ⟨b, k, out, cur⟩ hJ
  cases b with
  | true =>
    simp only [Bool.true_eq_false, false_and, or_false, true_and] at hJ
    subst hJ
    simp (config := {maxSteps := 2000000, implicitDefEqProofs := false}) (disch := omega) only [↓reduceIte, go_sem, Int.reduceToNat, Nat.reduceAdd, Nat.reduceLeDiff, Nat.reduceEqDiff, Nat.reduceSub, Nat.reduceMul, reduceCtorEq]
    refine altL ?_
    simp (config := {maxSteps := 2000000, implicitDefEqProofs := false}) (disch := omega) only [↓reduceIte, go_sem, Int.reduceToNat, Nat.reduceAdd, Nat.reduceLeDiff, Nat.reduceEqDiff, Nat.reduceSub, Nat.reduceMul, reduceCtorEq]
    refine callO (C12 v l h0 hl) ?_
    rintro r o ⟨rfl, rfl⟩
    simp (config := {maxSteps := 2000000, implicitDefEqProofs := false}) (disch := omega) only [↓reduceIte, go_sem, Int.reduceToNat, Nat.reduceAdd, Nat.reduceLeDiff, Nat.reduceEqDiff, Nat.reduceSub, Nat.reduceMul, reduceCtorEq, encIt]
    refine altL ?_
    simp (config := {maxSteps := 2000000, implicitDefEqProofs := false}) (disch := omega) only [↓reduceIte, go_sem, Int.reduceToNat, Nat.reduceAdd, Nat.reduceLeDiff, Nat.reduceEqDiff, Nat.reduceSub, Nat.reduceMul, reduceCtorEq]
    have hn1 : n.toNat = (n.toNat - 1) + 1 := by omega
    refine ⟨(false, n.toNat - 1, [best l], rst l), ?_, .inr ⟨rfl, ?_, ?_, ?_⟩, ?_⟩
    · simp [encIt]
    · simp only [List.length_singleton]; omega
    · simp only [List.length_singleton, rst_len h0]; omega
    · conv => lhs; rw [hn1]
      simp only [rdrain, show l.length ≠ 0 by omega, if_false, List.singleton_append]
    · simp only; omega
  | false =>
    simp only [Bool.false_eq_true, false_and, false_or, true_and] at hJ
    obtain ⟨h1, h2, h3⟩ := hJ
    simp (config := {maxSteps := 2000000, implicitDefEqProofs := false}) (disch := omega) only [↓reduceIte, go_sem, Int.reduceToNat, Nat.reduceAdd, Nat.reduceLeDiff, Nat.reduceEqDiff, Nat.reduceSub, Nat.reduceMul, reduceCtorEq]
    refine ifD (fun g => ?_) (fun g => ?_)
    · obtain ⟨k, rfl⟩ : ∃ k', k = k' + 1 := ⟨k - 1, by omega⟩
      by_cases hz : cur.length = 0
      · simp only [rdrain, hz, if_true] at h3
        have : cur = [] := List.length_eq_zero_iff.1 hz
        subst this
        simp (config := {maxSteps := 2000000, implicitDefEqProofs := false}) (disch := omega) only [↓reduceIte, go_sem, Int.reduceToNat, Nat.reduceAdd, Nat.reduceLeDiff, Nat.reduceEqDiff, Nat.reduceSub, Nat.reduceMul, reduceCtorEq]
        refine altR (altR (altR ?_))
        simp (config := {maxSteps := 2000000, implicitDefEqProofs := false}) (disch := omega) only [↓reduceIte, go_sem, Int.reduceToNat, Nat.reduceAdd, Nat.reduceLeDiff, Nat.reduceEqDiff, Nat.reduceSub, Nat.reduceMul, reduceCtorEq]
        refine callO (C12e 2) ?_
        rintro r o ⟨rfl, rfl⟩
        simp (config := {maxSteps := 2000000, implicitDefEqProofs := false}) (disch := omega) only [↓reduceIte, go_sem, Int.reduceToNat, Nat.reduceAdd, Nat.reduceLeDiff, Nat.reduceEqDiff, Nat.reduceSub, Nat.reduceMul, reduceCtorEq, encIt]
        rw [h3, List.append_nil]
        exact ⟨rfl, rfl⟩
      · simp only [rdrain, hz, if_false] at h3
        simp (config := {maxSteps := 2000000, implicitDefEqProofs := false}) (disch := omega) only [↓reduceIte, go_sem, Int.reduceToNat, Nat.reduceAdd, Nat.reduceLeDiff, Nat.reduceEqDiff, Nat.reduceSub, Nat.reduceMul, reduceCtorEq]
        refine altR (altL ?_)
        simp (config := {maxSteps := 2000000, implicitDefEqProofs := false}) (disch := omega) only [↓reduceIte, go_sem, Int.reduceToNat, Nat.reduceAdd, Nat.reduceLeDiff, Nat.reduceEqDiff, Nat.reduceSub, Nat.reduceMul, reduceCtorEq]
        refine callO (C12 2 cur (by omega) (by omega)) ?_
        rintro r o ⟨rfl, rfl⟩
        simp (config := {maxSteps := 2000000, implicitDefEqProofs := false}) (disch := omega) only [↓reduceIte, go_sem, Int.reduceToNat, Nat.reduceAdd, Nat.reduceLeDiff, Nat.reduceEqDiff, Nat.reduceSub, Nat.reduceMul, reduceCtorEq, encIt]
        refine altR ?_
        simp (config := {maxSteps := 2000000, implicitDefEqProofs := false}) (disch := omega) only [↓reduceIte, go_sem, Int.reduceToNat, Nat.reduceAdd, Nat.reduceLeDiff, Nat.reduceEqDiff, Nat.reduceSub, Nat.reduceMul, reduceCtorEq]
        refine ⟨(false, k, out ++ [best cur], rst cur), ?_, .inr ⟨rfl, ?_, ?_, ?_⟩, ?_⟩
        · simp [encIt]
        · simp only [List.length_append, List.length_singleton]; omega
        · simp only [List.length_append, List.length_singleton, rst_len (Nat.pos_of_ne_zero hz)]; omega
        · simp only [List.append_assoc, List.singleton_append]; exact h3
        · simp only; omega
    · have : k = 0 := by omega
      subst this
      simp (config := {maxSteps := 2000000, implicitDefEqProofs := false}) (disch := omega) only [↓reduceIte, go_sem, Int.reduceToNat, Nat.reduceAdd, Nat.reduceLeDiff, Nat.reduceEqDiff, Nat.reduceSub, Nat.reduceMul, reduceCtorEq]
      rw [h3]
      simp only [rdrain, List.append_nil]
      exact ⟨rfl, rfl⟩
end Go.Proofs.Ytmmgdilhbkklpaa.X
