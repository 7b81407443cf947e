import Derived.Test.YtmmgdilhbkklpaaM08H
namespace Go.Proofs.Ytmmgdilhbkklpaa.X
open Go Go.AM Go.Proofs
attribute [local go_sem ↓] w_skip w_lbl w_ops w_draw w_pre w_post w_alt w_seq w_cond w_block w_loop w_exit w_ret w_scope th_n th_e th_r bk_n bk_r bk_e t_nil t_it t_call i_nil i_one i_grp s_nil s_cons c_call e_mv e_frz o_mov o_bin o_eq o_un o_conv o_len o_slen o_idx o_aix o_fad o_load o_store o_boxp o_boxo o_boxm o_alloc o_alloca o_nilarr o_build o_bslp o_bslo o_slc o_sslc o_slc3 o_sidx o_mkfn o_ext o_pick o_callf o_callb o_appd o_clear o_mxn o_field o_nilc o_make o_buildm o_boxg o_mkif o_tass o_eqs o_callo k_int k_str k_bool k_grb k_grt k_some k_none k_arr k_lens k_lenf k_lenh k_idxs k_idxf k_idxh k_ld k_loadp k_loadr k_loade k_storer k_storee k_oin k_ois k_slcs k_slcf k_slch k_slc3s k_slc3f k_slc3h k_app2 k_apps k_appf k_apph k_cals k_cald k_cali k_cnb k_cna k_esn k_esc k_efn k_efc k_esh b_add b_sub b_mul b_quo b_rem b_and b_or b_xor b_andNot b_eql b_neq b_lss b_leq b_gtr b_geq b_shl b_shr b_seq b_sne b_slt b_sad q_bool q_str q_nil q_nilf u_not u_neg u_xor f_ret f_nor v_r v_c v_reg v_ob v_set v_put v_so v_sn v_pn v_pc g_nil d_nil p_nil m_mv m_fr z_nil z_cons z_an z_ac g_cons d_cons p_cons y_mov y_bin y_eq y_un y_conv y_len y_slen y_idx y_aix y_fad y_load y_store y_boxp y_boxo y_boxm y_alloc y_alloca y_nilarr y_build y_bslp y_bslo y_slc y_sslc y_slc3 y_sidx y_mkfn y_ext y_pick y_callf y_callb y_appd y_clear y_mxn y_field y_nilc y_make y_buildm y_boxg y_mkif y_tass y_eqs y_callo nb_if
attribute [local go_sem] VL_mk VL2_mk If_t If_f If_not If_and If_or If_dt If_df If_et If_ef If_ne Ck_t Ck_h Opt_s ld_a ld_c renL ren keepR renA idxM invL getObs mapOb renOb allNone putAll fzR fzO fz fzL fzOb frzOk upFrom mapR resOne resA cellsOf oneA oneAL isP isPL okSt kRows kParts fillA setAt bor bor0 bor1 bor2 borC borI key0 key1 key2 keysA fillM cellsM cellM unif ptrA ifOk kPartsM getObsM allNoneM zipU scal0 scalar eqC evNil evNilF List.map_cons List.map_nil List.cons_append List.nil_append List.append_nil List.drop_zero List.drop_succ_cons List.drop_nil List.take_succ_cons List.take_zero List.take_nil List.length_cons List.length_nil List.length_map List.getElem?_map Option.map_some Option.map_none Int.toNat_natCast Int.toNat_zero Int.toNat_one Int.natCast_nonneg List.flatMap_cons List.flatMap_nil List.all_cons List.all_nil Bool.and_true Bool.true_and Bool.and_false Bool.false_and Bool.not_true Bool.not_false beq_self_eq_true nb_self all_nil List.forall_mem_cons tk_map tk_app bs_self bs_dec bq_t bq_f Bool.not_not decide_true decide_false Bool.not_not and_self and_true true_and eq_self List.reverse_cons List.reverse_nil List.getElem?_cons_zero List.getElem?_cons_succ cond_true cond_false List.set_cons_zero List.set_cons_succ Nat.zero_add Nat.add_zero if_true if_false ite_true ite_false implies_true wrap64 wrap8
set_option linter.unusedVariables false
set_option linter.unusedSimpArgs false
set_option maxRecDepth 10000
theorem rest_heap {l : List It} (h : HeapFrom l l.length 0) (h0 : 0 < l.length) : HeapFrom (rest l) (rest l).length 0 := by
  rw [rest_len]
  exact popF_heap h h0
theorem root_mem {l : List It} (h : HeapFrom l l.length 0) : ∀ x ∈ l, bef x l[0]! = false := by
  intro x hx
  obtain ⟨i, hi, rfl⟩ := List.mem_iff_getElem.1 hx
  have := heap_root h i hi
  rwa [getElem!_pos l i hi] at this
theorem drain_perm : ∀ (n : Nat) (l : List It) (junk : List (List AV)), l.length = n → (drainF n l junk).1.Perm l
  | 0, l, junk, h => by rw [List.length_eq_zero_iff.1 h]; exact List.Perm.refl _
  | n + 1, l, junk, h => by
    simp only [drainF, h, Nat.add_one_ne_zero, if_false]
    exact ((drain_perm n (rest l) _ (by rw [rest_len]; omega)).cons _).trans (popF_perm (by omega)).symm
theorem drain_sorted : ∀ (n : Nat) (l : List It) (junk : List (List AV)), l.length = n → HeapFrom l l.length 0 → (drainF n l junk).1.Pairwise fun a b => bef b a = false
  | 0, l, junk, h, _ => List.Pairwise.nil
  | n + 1, l, junk, h, hh => by
    simp only [drainF, h, Nat.add_one_ne_zero, if_false]
    have hl := rest_len (l := l)
    refine List.Pairwise.cons (fun b hb => ?_) (drain_sorted n (rest l) _ (by omega) (rest_heap hh (by omega)))
    have hb1 := (drain_perm n (rest l) _ (by omega)).mem_iff.1 hb
    exact root_mem hh b ((popF_perm (by omega)).mem_iff.2 (List.mem_cons_of_mem _ hb1))
theorem heapify_heap' (l : List It) : HeapFrom (heapify l) (heapify l).length 0 := by rw [heapify_len]; exact heapify_heap l
def dr (l : List It) : List It := (drainF l.length (heapify l) []).1
theorem dr_perm (l : List It) : (dr l).Perm l := (drain_perm _ _ _ (heapify_len l)).trans (heapify_perm l)
theorem dr_len (l : List It) : (dr l).length = l.length := (dr_perm l).length_eq
theorem dr_sorted (l : List It) : (dr l).Pairwise fun a b => bef b a = false := drain_sorted _ _ _ (heapify_len l) (heapify_heap' l)
theorem cnt_take {l : List It} {k : Nat} {y : It} (x : It) (h : l[k]? = some y) : (l.take (k + 1)).count x = (l.take k).count x + if y = x then 1 else 0 := by
  rw [List.take_add_one, h, List.count_append]
  simp [List.count_singleton]
theorem C7' (l : List It) (hl : l.length < 1000000000) : Ctr Try.prog 7 [.sl (l.map encIt)] [] (fun r o => ∃ v, r = [.ref 0 0] ∧ o = [.box [.hs 1 v 0 (heapify l).length, .fn 19 []], .arr v 2 ((heapify l).map encIt)]) := by
  have h := C7 l hl
  simp only [pileO, List.append_nil] at h
  exact h
set_option maxHeartbeats 4000000 in
theorem C3 (l : List It) (hl : l.length ≤ 9223372036854775807) : Ctr Try.prog 3 [.sl (l.map encIt)] [] (ret [.bool true]) := by
  apply ctr_b A3_ok rfl (Nat.le_of_ble_eq_true rfl)
  unfold A3
  simp only [initL, Nat.reduceAdd]
  simp (config := {maxSteps := 2000000, implicitDefEqProofs := false}) (disch := omega) only [↓reduceIte, go_sem, Int.reduceToNat, Nat.reduceAdd, Nat.reduceLeDiff, Nat.reduceEqDiff, Nat.reduceSub, Nat.reduceMul, reduceCtorEq]
  refine ifD (fun g => ?_) (fun g => ?_)
  · simp (config := {maxSteps := 2000000, implicitDefEqProofs := false}) (disch := omega) only [↓reduceIte, go_sem, Int.reduceToNat, Nat.reduceAdd, Nat.reduceLeDiff, Nat.reduceEqDiff, Nat.reduceSub, Nat.reduceMul, reduceCtorEq]
    refine callL C6 ?_
    simp (config := {maxSteps := 2000000, implicitDefEqProofs := false}) (disch := omega) only [↓reduceIte, go_sem, Int.reduceToNat, Nat.reduceAdd, Nat.reduceLeDiff, Nat.reduceEqDiff, Nat.reduceSub, Nat.reduceMul, reduceCtorEq]
    exact ⟨rfl, rfl⟩
  · have g : l.length ≤ 60 := by omega
    simp (config := {maxSteps := 2000000, implicitDefEqProofs := false}) (disch := omega) only [↓reduceIte, go_sem, Int.reduceToNat, Nat.reduceAdd, Nat.reduceLeDiff, Nat.reduceEqDiff, Nat.reduceSub, Nat.reduceMul, reduceCtorEq]
    refine ckL (fun c hc => by obtain ⟨z, _, rfl⟩ := List.mem_map.1 hc; rfl) ?_
    simp (config := {maxSteps := 2000000, implicitDefEqProofs := false}) (disch := omega) only [↓reduceIte, go_sem, Int.reduceToNat, Nat.reduceAdd, Nat.reduceLeDiff, Nat.reduceEqDiff, Nat.reduceSub, Nat.reduceMul, reduceCtorEq]
    refine callO (C7' l (by omega)) ?_
    rintro r o ⟨v, rfl, rfl⟩
    simp (config := {maxSteps := 2000000, implicitDefEqProofs := false}) (disch := omega) only [↓reduceIte, go_sem, Int.reduceToNat, Nat.reduceAdd, Nat.reduceLeDiff, Nat.reduceEqDiff, Nat.reduceSub, Nat.reduceMul, reduceCtorEq]
    have h8 := C8 v (heapify l) [] l.length (by rw [heapify_len]; omega)
    rw [Int.toNat_natCast] at h8
    have e1 : (drainF l.length (heapify l) []).1 = dr l := rfl
    simp only [pileO, List.append_nil, e1] at h8
    generalize hjk : (drainF l.length (heapify l) []).2.2 = jk at h8
    generalize hrs : (drainF l.length (heapify l) []).2.1 = rs at h8
    refine callD h8 ?_
    have hd := dr_len l
    have hs := dr_sorted l
    have hp := dr_perm l
    generalize dr l = d at hd hs hp
    simp (config := {maxSteps := 2000000, implicitDefEqProofs := false}) (disch := omega) only [↓reduceIte, go_sem, Int.reduceToNat, Nat.reduceAdd, Nat.reduceLeDiff, Nat.reduceEqDiff, Nat.reduceSub, Nat.reduceMul, reduceCtorEq]
    refine callL (C9 l l (by omega)) ?_
    simp (config := {maxSteps := 2000000, implicitDefEqProofs := false}) (disch := omega) only [↓reduceIte, go_sem, Int.reduceToNat, Nat.reduceAdd, Nat.reduceLeDiff, Nat.reduceEqDiff, Nat.reduceSub, Nat.reduceMul, reduceCtorEq]
    refine loopL (fun (k : Nat) => ⟨[(0, .sl (l.map encIt)), (4, .sl (d.map encIt)), (5, .int .i64 k)], [(90, .box [.hs 91 v 0 rs.length, .fn 19 []]), (91, .arr v 2 (rs.map encIt ++ jk))]⟩) (fun k => k ≤ l.length) (fun k => l.length - k) 0 (by simp (config := {maxSteps := 2000000, implicitDefEqProofs := false}) (disch := omega) only [↓reduceIte, go_sem, Int.reduceToNat, Nat.reduceAdd, Nat.reduceLeDiff, Nat.reduceEqDiff, Nat.reduceSub, Nat.reduceMul, reduceCtorEq]; rfl) (Nat.zero_le _) ?_
    rintro k hk
    simp (config := {maxSteps := 2000000, implicitDefEqProofs := false}) (disch := omega) only [↓reduceIte, go_sem, Int.reduceToNat, Nat.reduceAdd, Nat.reduceLeDiff, Nat.reduceEqDiff, Nat.reduceSub, Nat.reduceMul, reduceCtorEq]
    refine ifD (fun h1 => ?_) (fun h1 => ?_)
    · obtain ⟨x, hx⟩ : ∃ x, d[k]? = some x := ⟨_, List.getElem?_eq_getElem (by omega)⟩
      simp (config := {maxSteps := 2000000, implicitDefEqProofs := false}) (disch := omega) only [↓reduceIte, go_sem, Int.reduceToNat, Nat.reduceAdd, Nat.reduceLeDiff, Nat.reduceEqDiff, Nat.reduceSub, Nat.reduceMul, reduceCtorEq]
      refine ifD (fun h3 => ?_) (fun h3 => ?_)
      · obtain ⟨p, hp1⟩ : ∃ p, d[k - 1]? = some p := ⟨_, List.getElem?_eq_getElem (by omega)⟩
        have e2 : ((k : Int) - 1).toNat = k - 1 := by omega
        have hb : bef x p = false := by
          have h5 := List.pairwise_iff_getElem.1 hs (k - 1) k (by omega) (by omega) (by omega)
          rw [List.getElem?_eq_getElem (by omega)] at hx hp1
          rw [Option.some.inj hx, Option.some.inj hp1] at h5
          exact h5
        rw [bef_not] at hb
        simp (config := {maxSteps := 2000000, implicitDefEqProofs := false}) (disch := omega) only [↓reduceIte, go_sem, Int.reduceToNat, Nat.reduceAdd, Nat.reduceLeDiff, Nat.reduceEqDiff, Nat.reduceSub, Nat.reduceMul, reduceCtorEq, hx, hp1, e2, encIt]
        refine ifE (fun h6 => ?_) (fun h6 => ?_)
        · simp (config := {maxSteps := 2000000, implicitDefEqProofs := false}) (disch := omega) only [↓reduceIte, go_sem, Int.reduceToNat, Nat.reduceAdd, Nat.reduceLeDiff, Nat.reduceEqDiff, Nat.reduceSub, Nat.reduceMul, reduceCtorEq, hx, hp1, e2, encIt]
          refine accL (by kernel_rfl) ?_
          simp (config := {maxSteps := 2000000, implicitDefEqProofs := false}) (disch := omega) only [↓reduceIte, go_sem, Int.reduceToNat, Nat.reduceAdd, Nat.reduceLeDiff, Nat.reduceEqDiff, Nat.reduceSub, Nat.reduceMul, reduceCtorEq]
          refine loopL (σ := Nat) (fun q => ⟨[(0, .sl (l.map encIt)), (4, .sl (d.map encIt)), (5, .int .i64 k), (6, .int .i64 ((((d.take q).count x : Nat) : Int) - ((l.take q).count x : Nat))), (7, .int .i64 q)], [(90, .box [.hs 91 v 0 rs.length, .fn 19 []]), (91, .arr v 2 (rs.map encIt ++ jk))]⟩) (fun q => q ≤ l.length) (fun q => l.length - q) 0 (by simp (config := {maxSteps := 2000000, implicitDefEqProofs := false}) (disch := omega) only [↓reduceIte, go_sem, Int.reduceToNat, Nat.reduceAdd, Nat.reduceLeDiff, Nat.reduceEqDiff, Nat.reduceSub, Nat.reduceMul, reduceCtorEq]; simp) (Nat.zero_le _) ?_
          rintro q hq
          have hc1 : (d.take q).count x ≤ l.length := Nat.le_trans List.count_le_length (by simp; omega)
          have hc2 : (l.take q).count x ≤ l.length := Nat.le_trans List.count_le_length (by simp; omega)
          simp (config := {maxSteps := 2000000, implicitDefEqProofs := false}) (disch := omega) only [↓reduceIte, go_sem, Int.reduceToNat, Nat.reduceAdd, Nat.reduceLeDiff, Nat.reduceEqDiff, Nat.reduceSub, Nat.reduceMul, reduceCtorEq]
          refine ifD (fun h2 => ?_) (fun h2 => ?_)
          · obtain ⟨a, ha⟩ : ∃ a, d[q]? = some a := ⟨_, List.getElem?_eq_getElem (by omega)⟩
            obtain ⟨b, hb⟩ : ∃ b, l[q]? = some b := ⟨_, List.getElem?_eq_getElem (by omega)⟩
            have hda := cnt_take x ha
            have hlb := cnt_take x hb
            simp (config := {maxSteps := 2000000, implicitDefEqProofs := false}) (disch := omega) only [↓reduceIte, go_sem, Int.reduceToNat, Nat.reduceAdd, Nat.reduceLeDiff, Nat.reduceEqDiff, Nat.reduceSub, Nat.reduceMul, reduceCtorEq, ha, hb, hx, encIt, Int.natCast_nonneg, eqIt]
            refine accL (by kernel_rfl) ?_
            simp (config := {maxSteps := 2000000, implicitDefEqProofs := false}) (disch := omega) only [↓reduceIte, go_sem, Int.reduceToNat, Nat.reduceAdd, Nat.reduceLeDiff, Nat.reduceEqDiff, Nat.reduceSub, Nat.reduceMul, reduceCtorEq]
            refine ifD (fun g1 => ?_) (fun g1 => ?_)
            · rw [if_pos g1] at hda
              simp (config := {maxSteps := 2000000, implicitDefEqProofs := false}) (disch := omega) only [↓reduceIte, go_sem, Int.reduceToNat, Nat.reduceAdd, Nat.reduceLeDiff, Nat.reduceEqDiff, Nat.reduceSub, Nat.reduceMul, reduceCtorEq, ha, hb, hx, encIt, Int.natCast_nonneg, eqIt]
              refine accL (by kernel_rfl) ?_
              simp (config := {maxSteps := 2000000, implicitDefEqProofs := false}) (disch := omega) only [↓reduceIte, go_sem, Int.reduceToNat, Nat.reduceAdd, Nat.reduceLeDiff, Nat.reduceEqDiff, Nat.reduceSub, Nat.reduceMul, reduceCtorEq]
              refine ifD (fun g2 => ?_) (fun g2 => ?_)
              · rw [if_pos g2] at hlb
                simp (config := {maxSteps := 2000000, implicitDefEqProofs := false}) (disch := omega) only [↓reduceIte, go_sem, Int.reduceToNat, Nat.reduceAdd, Nat.reduceLeDiff, Nat.reduceEqDiff, Nat.reduceSub, Nat.reduceMul, reduceCtorEq]
                refine ⟨q + 1, ?_, by omega, by omega⟩
                simp [hda, hlb]
                omega
              · rw [if_neg g2] at hlb
                simp (config := {maxSteps := 2000000, implicitDefEqProofs := false}) (disch := omega) only [↓reduceIte, go_sem, Int.reduceToNat, Nat.reduceAdd, Nat.reduceLeDiff, Nat.reduceEqDiff, Nat.reduceSub, Nat.reduceMul, reduceCtorEq]
                refine ⟨q + 1, ?_, by omega, by omega⟩
                simp [hda, hlb]
                omega
            · rw [if_neg g1] at hda
              simp (config := {maxSteps := 2000000, implicitDefEqProofs := false}) (disch := omega) only [↓reduceIte, go_sem, Int.reduceToNat, Nat.reduceAdd, Nat.reduceLeDiff, Nat.reduceEqDiff, Nat.reduceSub, Nat.reduceMul, reduceCtorEq, ha, hb, hx, encIt, Int.natCast_nonneg, eqIt]
              refine accL (by kernel_rfl) ?_
              simp (config := {maxSteps := 2000000, implicitDefEqProofs := false}) (disch := omega) only [↓reduceIte, go_sem, Int.reduceToNat, Nat.reduceAdd, Nat.reduceLeDiff, Nat.reduceEqDiff, Nat.reduceSub, Nat.reduceMul, reduceCtorEq]
              refine ifD (fun g2 => ?_) (fun g2 => ?_)
              · rw [if_pos g2] at hlb
                simp (config := {maxSteps := 2000000, implicitDefEqProofs := false}) (disch := omega) only [↓reduceIte, go_sem, Int.reduceToNat, Nat.reduceAdd, Nat.reduceLeDiff, Nat.reduceEqDiff, Nat.reduceSub, Nat.reduceMul, reduceCtorEq]
                refine ⟨q + 1, ?_, by omega, by omega⟩
                simp [hda, hlb]
                omega
              · rw [if_neg g2] at hlb
                simp (config := {maxSteps := 2000000, implicitDefEqProofs := false}) (disch := omega) only [↓reduceIte, go_sem, Int.reduceToNat, Nat.reduceAdd, Nat.reduceLeDiff, Nat.reduceEqDiff, Nat.reduceSub, Nat.reduceMul, reduceCtorEq]
                refine ⟨q + 1, ?_, by omega, by omega⟩
                simp [hda, hlb]
          · have e3 : q = l.length := by omega
            have e4 : (d.take q).count x = (l.take q).count x := by
              rw [e3, List.take_length, ← hd, List.take_length]
              exact hp.count_eq x
            simp (config := {maxSteps := 2000000, implicitDefEqProofs := false}) (disch := omega) only [↓reduceIte, go_sem, Int.reduceToNat, Nat.reduceAdd, Nat.reduceLeDiff, Nat.reduceEqDiff, Nat.reduceSub, Nat.reduceMul, reduceCtorEq]
            exact ⟨k + 1, by simp, by omega, by omega⟩
        · simp (config := {maxSteps := 2000000, implicitDefEqProofs := false}) (disch := omega) only [↓reduceIte, go_sem, Int.reduceToNat, Nat.reduceAdd, Nat.reduceLeDiff, Nat.reduceEqDiff, Nat.reduceSub, Nat.reduceMul, reduceCtorEq, hx, hp1, e2, encIt]
          refine accL (by kernel_rfl) ?_
          simp (config := {maxSteps := 2000000, implicitDefEqProofs := false}) (disch := omega) only [↓reduceIte, go_sem, Int.reduceToNat, Nat.reduceAdd, Nat.reduceLeDiff, Nat.reduceEqDiff, Nat.reduceSub, Nat.reduceMul, reduceCtorEq]
          refine loopL (σ := Nat) (fun q => ⟨[(0, .sl (l.map encIt)), (4, .sl (d.map encIt)), (5, .int .i64 k), (6, .int .i64 ((((d.take q).count x : Nat) : Int) - ((l.take q).count x : Nat))), (7, .int .i64 q)], [(90, .box [.hs 91 v 0 rs.length, .fn 19 []]), (91, .arr v 2 (rs.map encIt ++ jk))]⟩) (fun q => q ≤ l.length) (fun q => l.length - q) 0 (by simp (config := {maxSteps := 2000000, implicitDefEqProofs := false}) (disch := omega) only [↓reduceIte, go_sem, Int.reduceToNat, Nat.reduceAdd, Nat.reduceLeDiff, Nat.reduceEqDiff, Nat.reduceSub, Nat.reduceMul, reduceCtorEq]; simp) (Nat.zero_le _) ?_
          rintro q hq
          have hc1 : (d.take q).count x ≤ l.length := Nat.le_trans List.count_le_length (by simp; omega)
          have hc2 : (l.take q).count x ≤ l.length := Nat.le_trans List.count_le_length (by simp; omega)
          simp (config := {maxSteps := 2000000, implicitDefEqProofs := false}) (disch := omega) only [↓reduceIte, go_sem, Int.reduceToNat, Nat.reduceAdd, Nat.reduceLeDiff, Nat.reduceEqDiff, Nat.reduceSub, Nat.reduceMul, reduceCtorEq]
          refine ifD (fun h2 => ?_) (fun h2 => ?_)
          · obtain ⟨a, ha⟩ : ∃ a, d[q]? = some a := ⟨_, List.getElem?_eq_getElem (by omega)⟩
            obtain ⟨b, hb⟩ : ∃ b, l[q]? = some b := ⟨_, List.getElem?_eq_getElem (by omega)⟩
            have hda := cnt_take x ha
            have hlb := cnt_take x hb
            simp (config := {maxSteps := 2000000, implicitDefEqProofs := false}) (disch := omega) only [↓reduceIte, go_sem, Int.reduceToNat, Nat.reduceAdd, Nat.reduceLeDiff, Nat.reduceEqDiff, Nat.reduceSub, Nat.reduceMul, reduceCtorEq, ha, hb, hx, encIt, Int.natCast_nonneg, eqIt]
            refine accL (by kernel_rfl) ?_
            simp (config := {maxSteps := 2000000, implicitDefEqProofs := false}) (disch := omega) only [↓reduceIte, go_sem, Int.reduceToNat, Nat.reduceAdd, Nat.reduceLeDiff, Nat.reduceEqDiff, Nat.reduceSub, Nat.reduceMul, reduceCtorEq]
            refine ifD (fun g1 => ?_) (fun g1 => ?_)
            · rw [if_pos g1] at hda
              simp (config := {maxSteps := 2000000, implicitDefEqProofs := false}) (disch := omega) only [↓reduceIte, go_sem, Int.reduceToNat, Nat.reduceAdd, Nat.reduceLeDiff, Nat.reduceEqDiff, Nat.reduceSub, Nat.reduceMul, reduceCtorEq, ha, hb, hx, encIt, Int.natCast_nonneg, eqIt]
              refine accL (by kernel_rfl) ?_
              simp (config := {maxSteps := 2000000, implicitDefEqProofs := false}) (disch := omega) only [↓reduceIte, go_sem, Int.reduceToNat, Nat.reduceAdd, Nat.reduceLeDiff, Nat.reduceEqDiff, Nat.reduceSub, Nat.reduceMul, reduceCtorEq]
              refine ifD (fun g2 => ?_) (fun g2 => ?_)
              · rw [if_pos g2] at hlb
                simp (config := {maxSteps := 2000000, implicitDefEqProofs := false}) (disch := omega) only [↓reduceIte, go_sem, Int.reduceToNat, Nat.reduceAdd, Nat.reduceLeDiff, Nat.reduceEqDiff, Nat.reduceSub, Nat.reduceMul, reduceCtorEq]
                refine ⟨q + 1, ?_, by omega, by omega⟩
                simp [hda, hlb]
                omega
              · rw [if_neg g2] at hlb
                simp (config := {maxSteps := 2000000, implicitDefEqProofs := false}) (disch := omega) only [↓reduceIte, go_sem, Int.reduceToNat, Nat.reduceAdd, Nat.reduceLeDiff, Nat.reduceEqDiff, Nat.reduceSub, Nat.reduceMul, reduceCtorEq]
                refine ⟨q + 1, ?_, by omega, by omega⟩
                simp [hda, hlb]
                omega
            · rw [if_neg g1] at hda
              simp (config := {maxSteps := 2000000, implicitDefEqProofs := false}) (disch := omega) only [↓reduceIte, go_sem, Int.reduceToNat, Nat.reduceAdd, Nat.reduceLeDiff, Nat.reduceEqDiff, Nat.reduceSub, Nat.reduceMul, reduceCtorEq, ha, hb, hx, encIt, Int.natCast_nonneg, eqIt]
              refine accL (by kernel_rfl) ?_
              simp (config := {maxSteps := 2000000, implicitDefEqProofs := false}) (disch := omega) only [↓reduceIte, go_sem, Int.reduceToNat, Nat.reduceAdd, Nat.reduceLeDiff, Nat.reduceEqDiff, Nat.reduceSub, Nat.reduceMul, reduceCtorEq]
              refine ifD (fun g2 => ?_) (fun g2 => ?_)
              · rw [if_pos g2] at hlb
                simp (config := {maxSteps := 2000000, implicitDefEqProofs := false}) (disch := omega) only [↓reduceIte, go_sem, Int.reduceToNat, Nat.reduceAdd, Nat.reduceLeDiff, Nat.reduceEqDiff, Nat.reduceSub, Nat.reduceMul, reduceCtorEq]
                refine ⟨q + 1, ?_, by omega, by omega⟩
                simp [hda, hlb]
                omega
              · rw [if_neg g2] at hlb
                simp (config := {maxSteps := 2000000, implicitDefEqProofs := false}) (disch := omega) only [↓reduceIte, go_sem, Int.reduceToNat, Nat.reduceAdd, Nat.reduceLeDiff, Nat.reduceEqDiff, Nat.reduceSub, Nat.reduceMul, reduceCtorEq]
                refine ⟨q + 1, ?_, by omega, by omega⟩
                simp [hda, hlb]
          · have e3 : q = l.length := by omega
            have e4 : (d.take q).count x = (l.take q).count x := by
              rw [e3, List.take_length, ← hd, List.take_length]
              exact hp.count_eq x
            simp (config := {maxSteps := 2000000, implicitDefEqProofs := false}) (disch := omega) only [↓reduceIte, go_sem, Int.reduceToNat, Nat.reduceAdd, Nat.reduceLeDiff, Nat.reduceEqDiff, Nat.reduceSub, Nat.reduceMul, reduceCtorEq]
            exact ⟨k + 1, by simp, by omega, by omega⟩
      · simp (config := {maxSteps := 2000000, implicitDefEqProofs := false}) (disch := omega) only [↓reduceIte, go_sem, Int.reduceToNat, Nat.reduceAdd, Nat.reduceLeDiff, Nat.reduceEqDiff, Nat.reduceSub, Nat.reduceMul, reduceCtorEq]
        refine accL (by kernel_rfl) ?_
        simp (config := {maxSteps := 2000000, implicitDefEqProofs := false}) (disch := omega) only [↓reduceIte, go_sem, Int.reduceToNat, Nat.reduceAdd, Nat.reduceLeDiff, Nat.reduceEqDiff, Nat.reduceSub, Nat.reduceMul, reduceCtorEq]
        refine loopL (σ := Nat) (fun q => ⟨[(0, .sl (l.map encIt)), (4, .sl (d.map encIt)), (5, .int .i64 k), (6, .int .i64 ((((d.take q).count x : Nat) : Int) - ((l.take q).count x : Nat))), (7, .int .i64 q)], [(90, .box [.hs 91 v 0 rs.length, .fn 19 []]), (91, .arr v 2 (rs.map encIt ++ jk))]⟩) (fun q => q ≤ l.length) (fun q => l.length - q) 0 (by simp (config := {maxSteps := 2000000, implicitDefEqProofs := false}) (disch := omega) only [↓reduceIte, go_sem, Int.reduceToNat, Nat.reduceAdd, Nat.reduceLeDiff, Nat.reduceEqDiff, Nat.reduceSub, Nat.reduceMul, reduceCtorEq]; simp) (Nat.zero_le _) ?_
        rintro q hq
        have hc1 : (d.take q).count x ≤ l.length := Nat.le_trans List.count_le_length (by simp; omega)
        have hc2 : (l.take q).count x ≤ l.length := Nat.le_trans List.count_le_length (by simp; omega)
        simp (config := {maxSteps := 2000000, implicitDefEqProofs := false}) (disch := omega) only [↓reduceIte, go_sem, Int.reduceToNat, Nat.reduceAdd, Nat.reduceLeDiff, Nat.reduceEqDiff, Nat.reduceSub, Nat.reduceMul, reduceCtorEq]
        refine ifD (fun h2 => ?_) (fun h2 => ?_)
        · obtain ⟨a, ha⟩ : ∃ a, d[q]? = some a := ⟨_, List.getElem?_eq_getElem (by omega)⟩
          obtain ⟨b, hb⟩ : ∃ b, l[q]? = some b := ⟨_, List.getElem?_eq_getElem (by omega)⟩
          have hda := cnt_take x ha
          have hlb := cnt_take x hb
          simp (config := {maxSteps := 2000000, implicitDefEqProofs := false}) (disch := omega) only [↓reduceIte, go_sem, Int.reduceToNat, Nat.reduceAdd, Nat.reduceLeDiff, Nat.reduceEqDiff, Nat.reduceSub, Nat.reduceMul, reduceCtorEq, ha, hb, hx, encIt, Int.natCast_nonneg, eqIt]
          refine accL (by kernel_rfl) ?_
          simp (config := {maxSteps := 2000000, implicitDefEqProofs := false}) (disch := omega) only [↓reduceIte, go_sem, Int.reduceToNat, Nat.reduceAdd, Nat.reduceLeDiff, Nat.reduceEqDiff, Nat.reduceSub, Nat.reduceMul, reduceCtorEq]
          refine ifD (fun g1 => ?_) (fun g1 => ?_)
          · rw [if_pos g1] at hda
            simp (config := {maxSteps := 2000000, implicitDefEqProofs := false}) (disch := omega) only [↓reduceIte, go_sem, Int.reduceToNat, Nat.reduceAdd, Nat.reduceLeDiff, Nat.reduceEqDiff, Nat.reduceSub, Nat.reduceMul, reduceCtorEq, ha, hb, hx, encIt, Int.natCast_nonneg, eqIt]
            refine accL (by kernel_rfl) ?_
            simp (config := {maxSteps := 2000000, implicitDefEqProofs := false}) (disch := omega) only [↓reduceIte, go_sem, Int.reduceToNat, Nat.reduceAdd, Nat.reduceLeDiff, Nat.reduceEqDiff, Nat.reduceSub, Nat.reduceMul, reduceCtorEq]
            refine ifD (fun g2 => ?_) (fun g2 => ?_)
            · rw [if_pos g2] at hlb
              simp (config := {maxSteps := 2000000, implicitDefEqProofs := false}) (disch := omega) only [↓reduceIte, go_sem, Int.reduceToNat, Nat.reduceAdd, Nat.reduceLeDiff, Nat.reduceEqDiff, Nat.reduceSub, Nat.reduceMul, reduceCtorEq]
              refine ⟨q + 1, ?_, by omega, by omega⟩
              simp [hda, hlb]
              omega
            · rw [if_neg g2] at hlb
              simp (config := {maxSteps := 2000000, implicitDefEqProofs := false}) (disch := omega) only [↓reduceIte, go_sem, Int.reduceToNat, Nat.reduceAdd, Nat.reduceLeDiff, Nat.reduceEqDiff, Nat.reduceSub, Nat.reduceMul, reduceCtorEq]
              refine ⟨q + 1, ?_, by omega, by omega⟩
              simp [hda, hlb]
              omega
          · rw [if_neg g1] at hda
            simp (config := {maxSteps := 2000000, implicitDefEqProofs := false}) (disch := omega) only [↓reduceIte, go_sem, Int.reduceToNat, Nat.reduceAdd, Nat.reduceLeDiff, Nat.reduceEqDiff, Nat.reduceSub, Nat.reduceMul, reduceCtorEq, ha, hb, hx, encIt, Int.natCast_nonneg, eqIt]
            refine accL (by kernel_rfl) ?_
            simp (config := {maxSteps := 2000000, implicitDefEqProofs := false}) (disch := omega) only [↓reduceIte, go_sem, Int.reduceToNat, Nat.reduceAdd, Nat.reduceLeDiff, Nat.reduceEqDiff, Nat.reduceSub, Nat.reduceMul, reduceCtorEq]
            refine ifD (fun g2 => ?_) (fun g2 => ?_)
            · rw [if_pos g2] at hlb
              simp (config := {maxSteps := 2000000, implicitDefEqProofs := false}) (disch := omega) only [↓reduceIte, go_sem, Int.reduceToNat, Nat.reduceAdd, Nat.reduceLeDiff, Nat.reduceEqDiff, Nat.reduceSub, Nat.reduceMul, reduceCtorEq]
              refine ⟨q + 1, ?_, by omega, by omega⟩
              simp [hda, hlb]
              omega
            · rw [if_neg g2] at hlb
              simp (config := {maxSteps := 2000000, implicitDefEqProofs := false}) (disch := omega) only [↓reduceIte, go_sem, Int.reduceToNat, Nat.reduceAdd, Nat.reduceLeDiff, Nat.reduceEqDiff, Nat.reduceSub, Nat.reduceMul, reduceCtorEq]
              refine ⟨q + 1, ?_, by omega, by omega⟩
              simp [hda, hlb]
        · have e3 : q = l.length := by omega
          have e4 : (d.take q).count x = (l.take q).count x := by
            rw [e3, List.take_length, ← hd, List.take_length]
            exact hp.count_eq x
          simp (config := {maxSteps := 2000000, implicitDefEqProofs := false}) (disch := omega) only [↓reduceIte, go_sem, Int.reduceToNat, Nat.reduceAdd, Nat.reduceLeDiff, Nat.reduceEqDiff, Nat.reduceSub, Nat.reduceMul, reduceCtorEq]
          exact ⟨k + 1, by simp, by omega, by omega⟩
    · simp (config := {maxSteps := 2000000, implicitDefEqProofs := false}) (disch := omega) only [↓reduceIte, go_sem, Int.reduceToNat, Nat.reduceAdd, Nat.reduceLeDiff, Nat.reduceEqDiff, Nat.reduceSub, Nat.reduceMul, reduceCtorEq]
      refine callL C6 ?_
      simp (config := {maxSteps := 2000000, implicitDefEqProofs := false}) (disch := omega) only [↓reduceIte, go_sem, Int.reduceToNat, Nat.reduceAdd, Nat.reduceLeDiff, Nat.reduceEqDiff, Nat.reduceSub, Nat.reduceMul, reduceCtorEq]
      exact ⟨rfl, rfl⟩
end Go.Proofs.Ytmmgdilhbkklpaa.X
