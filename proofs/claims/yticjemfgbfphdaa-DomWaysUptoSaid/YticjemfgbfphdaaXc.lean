/- The reference's graph; a graph's length and rows. -/
import Derived.Test.YticjemfgbfphdaaXb
namespace Go.Proofs.Yticjemfgbfphdaa.X
open Go Go.AM Go.Proofs
attribute [local go_sem ↓] w_skip w_lbl w_ops w_draw w_pre w_post w_alt w_seq w_cond w_block w_join w_loop w_exit w_ret w_scope w_rfunc l_nil l_cons th_n th_e th_r bk_n bk_r bk_e t_nil t_it t_call i_nil i_one i_grp s_nil s_cons c_call e_mv e_nil e_dyn e_nilb e_frz o_mov o_bin o_eq o_un o_conv o_len o_slen o_idx o_aix o_fad o_load o_store o_boxp o_boxo o_boxm o_alloc o_allocm o_alloca o_nilarr o_build o_bslp o_bslo o_slc o_sslc o_slc3 o_sidx o_mkfn o_mkmv o_vidx o_ext o_pick o_callf o_callb o_appd o_clear o_mxn o_field o_nilc o_make o_makeb o_buildm o_boxg o_mkif o_tass o_eqs o_callo o_callx k_int k_str k_bool k_grb k_grt k_some k_none k_arr k_lens k_lenf k_lenh k_lenb k_idxb k_idxs k_idxf k_idxh k_ld k_loadp k_loadr k_loade k_storer k_storee k_oin k_ois k_slcs k_slcf k_slch k_slc3s k_slc3f k_slc3h k_app2 k_apps k_appf k_apph k_cals k_cald k_cali k_cnb k_cna k_esn k_esc k_efn k_efc k_esh b_add b_sub b_mul b_quo b_rem b_and b_or b_xor b_andNot b_eql b_neq b_lss b_leq b_gtr b_geq b_shl b_shr b_seq b_sne b_slt b_sad q_bool q_str q_nil q_nilf u_not u_neg u_xor f_ret f_nor v_r v_c v_g v_reg v_ob v_set v_put v_so v_sn v_pn v_pc g_nil d_nil p_nil m_mv m_fr z_nil z_cons z_an z_ac g_cons d_cons p_cons y_mov y_bin y_eq y_un y_conv y_len y_slen y_idx y_aix y_fad y_load y_store y_boxp y_boxo y_boxm y_alloc y_alloca y_allocm y_nilarr y_build y_bslp y_bslo y_slc y_sslc y_slc3 y_sidx y_mkfn y_ext y_pick y_callf y_callb y_appd y_clear y_mxn y_field y_nilc y_make y_makeb y_buildm y_boxg y_mkif y_tass y_eqs y_callo y_mkmv y_callx y_vidx nb_if
attribute [local go_sem] nbd VL_mk VL2_mk If_t If_f If_not If_and If_or If_dt If_df If_et If_ef If_ne Ck_t Ck_h Opt_s ld_a ld_c lm_a lm_c renL ren keepR renA idxM invL getObs mapOb renOb allNone putAll fzR fzO fz fzL fzOb fzB frzOk upFrom mapR resOne resA cellsOf oneA oneAL isP isPL okSt kRows kParts fillA setAt bor bor0 bor1 bor2 borC borI key0 key1 key2 keysA fillM cellsM cellM unif ptrA ifOk kPartsM getObsM allNoneM zipU scal0 scalar eqC evNil evNilF memK keyX hideM xbor scal1 scalX scalOb bndA mkMag showM lendV hideV hideR hideOb hideL hideO showL backO noneO mapA List.map_cons List.map_nil List.cons_append List.nil_append List.append_nil List.drop_zero List.drop_succ_cons List.drop_nil List.take_succ_cons List.take_zero List.take_nil List.length_cons List.length_nil List.length_map List.getElem?_map Option.map_some Option.map_none Int.toNat_natCast Int.toNat_zero Int.toNat_one Int.natCast_nonneg List.flatMap_cons List.flatMap_nil List.all_cons List.all_nil List.any_cons List.any_nil Bool.or_false Bool.false_or Bool.or_true Bool.true_or Bool.and_true Bool.true_and Bool.and_false Bool.false_and Bool.not_true Bool.not_false beq_self_eq_true nb_self all_nil List.forall_mem_cons tk_map tk_app bs_self bs_dec bq_t bq_f Bool.not_not decide_true decide_false Bool.not_not and_self and_true true_and eq_self List.reverse_cons List.reverse_nil List.getElem?_cons_zero List.getElem?_cons_succ cond_true cond_false List.set_cons_zero List.set_cons_succ Nat.zero_add Nat.add_zero if_true if_false ite_true ite_false implies_true wrap64 wrap8
set_option linter.unusedVariables false
set_option linter.unusedSimpArgs false
set_option maxRecDepth 10000
theorem C28 (f : Fnc) (l : ByteArray) (hl : f.blocks.length < 1000000) : Ctr Try.prog 28 [.agg (encFn f), .str l] [] (ret [.int .i64 (findI f.blocks l)]) := by
  apply ctr_b A28_ok rfl (Nat.le_of_ble_eq_true rfl)
  unfold A28
  simp only [initL, Nat.reduceAdd]
  simp (config := {maxSteps := 2000000, implicitDefEqProofs := false}) (disch := omega) only [↓reduceIte, go_sem, Int.reduceToNat, Nat.reduceAdd, Nat.reduceLeDiff, Nat.reduceEqDiff, Nat.reduceSub, Nat.reduceMul, reduceCtorEq, encFn]
  refine loopL (σ := Nat) (fun s => ⟨[(1, .str l), (2, .rp (encFn f)), (5, .int .i64 s)], []⟩) (fun s => s ≤ f.blocks.length ∧ ∀ j, j < s → ∀ c, f.blocks[j]? = some c → c.label ≠ l) (fun s => f.blocks.length - s) 0 (by simp (config := {maxSteps := 2000000, implicitDefEqProofs := false}) (disch := omega) only [↓reduceIte, go_sem, Int.reduceToNat, Nat.reduceAdd, Nat.reduceLeDiff, Nat.reduceEqDiff, Nat.reduceSub, Nat.reduceMul, reduceCtorEq, encFn]; rfl) ⟨by omega, fun j hj => by omega⟩ ?_
  rintro s ⟨h1, h2⟩
  simp (config := {maxSteps := 2000000, implicitDefEqProofs := false}) (disch := omega) only [↓reduceIte, go_sem, Int.reduceToNat, Nat.reduceAdd, Nat.reduceLeDiff, Nat.reduceEqDiff, Nat.reduceSub, Nat.reduceMul, reduceCtorEq, encFn]
  refine ifD (fun c => ?_) (fun c => ?_)
  · obtain ⟨b, hb⟩ : ∃ b, f.blocks[s]? = some b := ⟨_, List.getElem?_eq_getElem (by omega)⟩
    simp (config := {maxSteps := 2000000, implicitDefEqProofs := false}) (disch := omega) only [↓reduceIte, go_sem, Int.reduceToNat, Nat.reduceAdd, Nat.reduceLeDiff, Nat.reduceEqDiff, Nat.reduceSub, Nat.reduceMul, reduceCtorEq, encFn, hb, encBk]
    refine ifD (fun e => ?_) (fun e => ?_)
    · simp (config := {maxSteps := 2000000, implicitDefEqProofs := false}) (disch := omega) only [↓reduceIte, go_sem, Int.reduceToNat, Nat.reduceAdd, Nat.reduceLeDiff, Nat.reduceEqDiff, Nat.reduceSub, Nat.reduceMul, reduceCtorEq, encFn]
      refine ⟨?_, rfl⟩
      rw [findI, findN_of hb e h2]; rfl
    · simp (config := {maxSteps := 2000000, implicitDefEqProofs := false}) (disch := omega) only [↓reduceIte, go_sem, Int.reduceToNat, Nat.reduceAdd, Nat.reduceLeDiff, Nat.reduceEqDiff, Nat.reduceSub, Nat.reduceMul, reduceCtorEq, encFn]
      refine ⟨s + 1, by simp, ⟨by omega, fun j hj c hc => ?_⟩, by omega⟩
      by_cases hjs : j = s
      · subst hjs; rw [hb] at hc; cases hc; exact e
      · exact h2 j (by omega) c hc
  · simp (config := {maxSteps := 2000000, implicitDefEqProofs := false}) (disch := omega) only [↓reduceIte, go_sem, Int.reduceToNat, Nat.reduceAdd, Nat.reduceLeDiff, Nat.reduceEqDiff, Nat.reduceSub, Nat.reduceMul, reduceCtorEq, encFn]
    refine ⟨?_, rfl⟩
    rw [findI, findN_none fun j hj => h2 j (by omega)]; rfl
theorem C29 (S P : List (List Nat)) : Ctr Try.prog 29 [grP S P] [] (ret [.int .i64 (S.length : Int)]) := by
  apply ctr_b A29_ok rfl (Nat.le_of_ble_eq_true rfl)
  unfold A29
  simp only [initL, Nat.reduceAdd, grP, encRows]
  simp (config := {maxSteps := 2000000, implicitDefEqProofs := false}) (disch := omega) only [↓reduceIte, go_sem, Int.reduceToNat, Nat.reduceAdd, Nat.reduceLeDiff, Nat.reduceEqDiff, Nat.reduceSub, Nat.reduceMul, reduceCtorEq]
  exact ⟨rfl, rfl⟩
theorem C58 (S P : List (List Nat)) (i : Nat) (r : List Nat) (hi : i < S.length) (hP : P[i]? = some r) (hr : r.length < 1000000) : Ctr Try.prog 58 [grP S P, .int .i64 (i : Int), .int .i64 1] [] (ret [.sl (r.map encK)]) := by
  apply ctr_b A58_ok rfl (Nat.le_of_ble_eq_true rfl)
  unfold A58
  simp only [initL, Nat.reduceAdd, grP, encRows]
  have h0 : decide ((i : Int) < 0) = false := decide_eq_false (by omega)
  simp (config := {maxSteps := 2000000, implicitDefEqProofs := false}) (disch := omega) only [↓reduceIte, go_sem, Int.reduceToNat, Nat.reduceAdd, Nat.reduceLeDiff, Nat.reduceEqDiff, Nat.reduceSub, Nat.reduceMul, reduceCtorEq, h0]
  refine callL (C29 S P) ?_
  have h1 : decide ((i : Int) ≥ (S.length : Int)) = false := decide_eq_false (by omega)
  simp (config := {maxSteps := 2000000, implicitDefEqProofs := false}) (disch := omega) only [↓reduceIte, go_sem, Int.reduceToNat, Nat.reduceAdd, Nat.reduceLeDiff, Nat.reduceEqDiff, Nat.reduceSub, Nat.reduceMul, reduceCtorEq, h0, h1, hP, encRow]
  refine callL (C59 r hr) ?_
  simp (config := {maxSteps := 2000000, implicitDefEqProofs := false}) (disch := omega) only [↓reduceIte, go_sem, Int.reduceToNat, Nat.reduceAdd, Nat.reduceLeDiff, Nat.reduceEqDiff, Nat.reduceSub, Nat.reduceMul, reduceCtorEq]
  refine accL (by kernel_rfl) ?_
  simp (config := {maxSteps := 2000000, implicitDefEqProofs := false}) (disch := omega) only [↓reduceIte, go_sem, Int.reduceToNat, Nat.reduceAdd, Nat.reduceLeDiff, Nat.reduceEqDiff, Nat.reduceSub, Nat.reduceMul, reduceCtorEq]
  exact ⟨rfl, rfl⟩
theorem C48 (S P : List (List Nat)) (i : Nat) (r : List Nat) (hi : i < S.length) (hP : P[i]? = some r) (hr : r.length < 1000000) : Ctr Try.prog 48 [grP S P, .int .i64 (i : Int)] [] (ret [.sl (r.map encK)]) := by
  apply ctr_b A48_ok rfl (Nat.le_of_ble_eq_true rfl)
  unfold A48
  simp only [initL, Nat.reduceAdd]
  have hg : isP (grP S P) = true := rfl
  simp (config := {maxSteps := 2000000, implicitDefEqProofs := false}) (disch := omega) only [↓reduceIte, go_sem, Int.reduceToNat, Nat.reduceAdd, Nat.reduceLeDiff, Nat.reduceEqDiff, Nat.reduceSub, Nat.reduceMul, reduceCtorEq, hg]
  refine callL (C58 S P i r hi hP hr) ?_
  simp (config := {maxSteps := 2000000, implicitDefEqProofs := false}) (disch := omega) only [↓reduceIte, go_sem, Int.reduceToNat, Nat.reduceAdd, Nat.reduceLeDiff, Nat.reduceEqDiff, Nat.reduceSub, Nat.reduceMul, reduceCtorEq]
  exact ⟨rfl, rfl⟩
/-- One label after the other, as the reference goes. -/
theorem C8 (f : Fnc) (hl : f.blocks.length < 1000000) (hc : ∀ b ∈ f.blocks, b.code.length ≤ 9223372036854775807 ∧ ∀ i ∈ b.code, i.labels.length ≤ 9223372036854775807) : Ctr Try.prog 8 [.agg (encFn f)] [] (ret [.sl (encRows (succF f.blocks))]) := by
  apply ctr_b A8_ok rfl (Nat.le_of_ble_eq_true rfl)
  unfold A8
  simp only [initL, Nat.reduceAdd]
  simp (config := {maxSteps := 2000000, implicitDefEqProofs := false}) (disch := omega) only [↓reduceIte, go_sem, Int.reduceToNat, Nat.reduceAdd, Nat.reduceLeDiff, Nat.reduceEqDiff, Nat.reduceSub, Nat.reduceMul, reduceCtorEq, encFn]
  have hfin : ∀ s b cur, f.blocks[s]? = some b → cur = succB f.blocks b → encRows ((succF f.blocks).take s) ++ [[.sl (cur.map encK)]] = encRows ((succF f.blocks).take (s + 1)) := fun s b cur hb hc => by
    have : (succF f.blocks)[s]? = some cur := by simp [succF, hb, hc]
    rw [snoc_take this]
    simp [encRows, encRow]
  refine loopL (σ := Nat) (fun s => ⟨[(1, .rp (encFn f)), (3, .hs 3 s 0 s), (4, .int .i64 (s : Int))], [(3, .arr s 1 (encRows ((succF f.blocks).take s)))]⟩) (fun s => s ≤ f.blocks.length) (fun s => f.blocks.length - s) 0 (by simp (config := {maxSteps := 2000000, implicitDefEqProofs := false}) (disch := omega) only [↓reduceIte, go_sem, Int.reduceToNat, Nat.reduceAdd, Nat.reduceLeDiff, Nat.reduceEqDiff, Nat.reduceSub, Nat.reduceMul, reduceCtorEq, encFn, encRows]; rfl) (Nat.zero_le _) ?_
  intro s hs
  have hrl : (encRows ((succF f.blocks).take s)).length = s := by simp [encRows, succF]; omega
  simp (config := {maxSteps := 2000000, implicitDefEqProofs := false}) (disch := omega) only [↓reduceIte, go_sem, Int.reduceToNat, Nat.reduceAdd, Nat.reduceLeDiff, Nat.reduceEqDiff, Nat.reduceSub, Nat.reduceMul, reduceCtorEq, encFn]
  refine ifD (fun c => ?_) (fun c => ?_)
  · obtain ⟨b, hb⟩ : ∃ b, f.blocks[s]? = some b := ⟨_, List.getElem?_eq_getElem (by omega)⟩
    have hbm := List.mem_of_getElem? hb
    have hcb := hc b hbm
    have hc1 : ((s + 1 : Nat) : Int) * ((24 : Nat) : Int) ≤ 70368744177664 := by omega
    simp (config := {maxSteps := 2000000, implicitDefEqProofs := false}) (disch := omega) only [↓reduceIte, go_sem, Int.reduceToNat, Nat.reduceAdd, Nat.reduceLeDiff, Nat.reduceEqDiff, Nat.reduceSub, Nat.reduceMul, reduceCtorEq, encFn, hb, encBk]
    refine ifD (fun c2 => ?_) (fun c2 => ?_)
    · obtain ⟨i, hi⟩ : ∃ i, b.code[b.code.length - 1]? = some i := ⟨_, List.getElem?_eq_getElem (by omega)⟩
      have hgl : b.code.getLast? = some i := by rw [List.getLast?_eq_getElem?, hi]
      have him := List.mem_of_getElem? hi
      have hw : IntKind.i64.wrap ((b.code.length : Int) - 1) = ((b.code.length - 1 : Nat) : Int) := by rw [wrap64 (by omega) (by omega)]; omega
      simp (config := {maxSteps := 2000000, implicitDefEqProofs := false}) (disch := omega) only [↓reduceIte, go_sem, Int.reduceToNat, Nat.reduceAdd, Nat.reduceLeDiff, Nat.reduceEqDiff, Nat.reduceSub, Nat.reduceMul, reduceCtorEq, encFn, hb, encBk, hw, hi, encIn]
      refine ifD (fun c3 => ?_) (fun c3 => ?_)
      · simp (config := {maxSteps := 2000000, implicitDefEqProofs := false}) (disch := omega) only [↓reduceIte, go_sem, Int.reduceToNat, Nat.reduceAdd, Nat.reduceLeDiff, Nat.reduceEqDiff, Nat.reduceSub, Nat.reduceMul, reduceCtorEq, encFn, hb, encBk, hw, hi, encIn]
        refine ifD (fun c4 => ?_) (fun c4 => ?_)
        · have hlab : labelsOf b = i.labels := by simp [labelsOf, lastOp, hgl, show 20 ≤ i.op ∧ i.op ≤ 23 from ⟨by omega, by omega⟩]
          have hll := hcb.2 i him
          simp (config := {maxSteps := 2000000, implicitDefEqProofs := false}) (disch := omega) only [↓reduceIte, go_sem, Int.reduceToNat, Nat.reduceAdd, Nat.reduceLeDiff, Nat.reduceEqDiff, Nat.reduceSub, Nat.reduceMul, reduceCtorEq, encFn, hb, encBk, hw, hi, encIn]
          refine loopL (σ := Nat) (fun j => ⟨[(1, .rp (encFn f)), (3, .hs 3 s 0 s), (4, .int .i64 (s : Int)), (5, .hs 5 ((i.labels.take j).foldl (stepL f.blocks) []).length 0 ((i.labels.take j).foldl (stepL f.blocks) []).length), (7, .rp (encIn i)), (8, .int .i64 (j : Int))],
            [(3, .arr s 1 (encRows ((succF f.blocks).take s))), (5, .arr ((i.labels.take j).foldl (stepL f.blocks) []).length 1 (((i.labels.take j).foldl (stepL f.blocks) []).map encK))]⟩) (fun j => j ≤ i.labels.length) (fun j => i.labels.length - j) 0 (by simp (config := {maxSteps := 2000000, implicitDefEqProofs := false}) (disch := omega) only [↓reduceIte, go_sem, Int.reduceToNat, Nat.reduceAdd, Nat.reduceLeDiff, Nat.reduceEqDiff, Nat.reduceSub, Nat.reduceMul, reduceCtorEq, encFn, encIn]; rfl) (Nat.zero_le _) ?_
          intro j hj
          simp (config := {maxSteps := 2000000, implicitDefEqProofs := false}) (disch := omega) only [↓reduceIte, go_sem, Int.reduceToNat, Nat.reduceAdd, Nat.reduceLeDiff, Nat.reduceEqDiff, Nat.reduceSub, Nat.reduceMul, reduceCtorEq, encFn, encIn]
          refine ifD (fun d => ?_) (fun d => ?_)
          · obtain ⟨l, hl2⟩ : ∃ l, i.labels[j]? = some l := ⟨_, List.getElem?_eq_getElem (by omega)⟩
            have hcur : ∀ x ∈ (i.labels.take j).foldl (stepL f.blocks) [], x < f.blocks.length := foldl_inv (P := fun l => ∀ x ∈ l, x < f.blocks.length) (fun _ _ h => stepL_lt h) _ _ (fun x hx => by cases hx)
            have hnd : ((i.labels.take j).foldl (stepL f.blocks) []).Nodup := foldl_inv (P := List.Nodup) (fun _ _ h => stepL_nodup h) _ _ List.nodup_nil
            have hclen := nodup_le hnd hcur
            have hstep : (i.labels.take (j + 1)).foldl (stepL f.blocks) [] = stepL f.blocks ((i.labels.take j).foldl (stepL f.blocks) []) l := by
              rw [snoc_take hl2, List.foldl_append]; rfl
            generalize (i.labels.take j).foldl (stepL f.blocks) [] = cur at hcur hnd hclen hstep ⊢
            simp (config := {maxSteps := 2000000, implicitDefEqProofs := false}) (disch := omega) only [↓reduceIte, go_sem, Int.reduceToNat, Nat.reduceAdd, Nat.reduceLeDiff, Nat.reduceEqDiff, Nat.reduceSub, Nat.reduceMul, reduceCtorEq, encFn, encIn, hl2, encSt]
            refine callL (C28 f l hl) ?_
            simp (config := {maxSteps := 2000000, implicitDefEqProofs := false}) (disch := omega) only [↓reduceIte, go_sem, Int.reduceToNat, Nat.reduceAdd, Nat.reduceLeDiff, Nat.reduceEqDiff, Nat.reduceSub, Nat.reduceMul, reduceCtorEq, encFn, encIn, hl2, encSt]
            refine accL (by kernel_rfl) ?_
            cases hf : findN f.blocks l with
            | none =>
              have hfi : findI f.blocks l = -1 := by rw [findI, hf]; rfl
              have hst : stepL f.blocks cur l = cur := by rw [stepL, hf]
              simp (config := {maxSteps := 2000000, implicitDefEqProofs := false}) (disch := omega) only [↓reduceIte, go_sem, Int.reduceToNat, Nat.reduceAdd, Nat.reduceLeDiff, Nat.reduceEqDiff, Nat.reduceSub, Nat.reduceMul, reduceCtorEq, encFn, encIn, encSt, hl2, hfi, show decide ((-1 : Int) ≥ 0) = false from rfl]
              exact ⟨j + 1, by rw [hstep, hst]; simp, by omega, by omega⟩
            | some t =>
              have hfi : findI f.blocks l = (t : Int) := by rw [findI, hf]; rfl
              have htn := findN_some hf
              simp (config := {maxSteps := 2000000, implicitDefEqProofs := false}) (disch := omega) only [↓reduceIte, go_sem, Int.reduceToNat, Nat.reduceAdd, Nat.reduceLeDiff, Nat.reduceEqDiff, Nat.reduceSub, Nat.reduceMul, reduceCtorEq, encFn, encIn, encSt, hl2, hfi, show decide ((t : Int) ≥ 0) = true from decide_eq_true (Int.natCast_nonneg t)]
              refine callL (C24 cur t (by omega)) ?_
              have hmem : (∃ k ∈ cur, (k : Int) = (t : Int)) ↔ t ∈ cur := ⟨fun ⟨k, hk, e⟩ => by rwa [show t = k by omega], fun h => ⟨t, h, rfl⟩⟩
              by_cases hin : t ∈ cur
              · have hq : decide (∃ k ∈ cur, (k : Int) = (t : Int)) = true := decide_eq_true (hmem.2 hin)
                have hst : stepL f.blocks cur l = cur := by rw [stepL, hf]; simp [hin]
                simp (config := {maxSteps := 2000000, implicitDefEqProofs := false}) (disch := omega) only [↓reduceIte, go_sem, Int.reduceToNat, Nat.reduceAdd, Nat.reduceLeDiff, Nat.reduceEqDiff, Nat.reduceSub, Nat.reduceMul, reduceCtorEq, encFn, encIn, encSt, hl2, hfi, show decide ((t : Int) ≥ 0) = true from decide_eq_true (Int.natCast_nonneg t), hq]
                exact ⟨j + 1, by rw [hstep, hst]; simp, by omega, by omega⟩
              · have hq : decide (∃ k ∈ cur, (k : Int) = (t : Int)) = false := decide_eq_false (fun h => hin (hmem.1 h))
                have hst : stepL f.blocks cur l = cur ++ [t] := by rw [stepL, hf]; simp [hin]
                have hc2 : ((cur.length + 1 : Nat) : Int) * ((8 : Nat) : Int) ≤ 70368744177664 := by omega
                simp (config := {maxSteps := 2000000, implicitDefEqProofs := false}) (disch := omega) only [↓reduceIte, go_sem, Int.reduceToNat, Nat.reduceAdd, Nat.reduceLeDiff, Nat.reduceEqDiff, Nat.reduceSub, Nat.reduceMul, reduceCtorEq, encFn, encIn, encSt, hl2, hfi, show decide ((t : Int) ≥ 0) = true from decide_eq_true (Int.natCast_nonneg t), hq, hc2]
                exact ⟨j + 1, by rw [hstep, hst]; simp [encK], by omega, by omega⟩
          · have hje : j = i.labels.length := by omega
            subst hje
            have hsb : (i.labels.take i.labels.length).foldl (stepL f.blocks) [] = succB f.blocks b := by rw [List.take_length, succB, hlab]
            generalize (i.labels.take i.labels.length).foldl (stepL f.blocks) [] = cur at hsb ⊢
            simp (config := {maxSteps := 2000000, implicitDefEqProofs := false}) (disch := omega) only [↓reduceIte, go_sem, Int.reduceToNat, Nat.reduceAdd, Nat.reduceLeDiff, Nat.reduceEqDiff, Nat.reduceSub, Nat.reduceMul, reduceCtorEq, encFn, encIn, hb, encBk, hrl, hc1]
            exact ⟨s + 1, by rw [← hfin s b cur hb hsb]; simp, by omega, by omega⟩
        · have hsb : [] = succB f.blocks b := by simp [succB, labelsOf, lastOp, hgl]; rw [if_neg (by omega)]; rfl
          simp (config := {maxSteps := 2000000, implicitDefEqProofs := false}) (disch := omega) only [↓reduceIte, go_sem, Int.reduceToNat, Nat.reduceAdd, Nat.reduceLeDiff, Nat.reduceEqDiff, Nat.reduceSub, Nat.reduceMul, reduceCtorEq, encFn, hb, encBk, hw, hi, encIn, hrl, hc1]
          exact ⟨s + 1, by rw [← hfin s b [] hb hsb]; simp, by omega, by omega⟩
      · have hsb : [] = succB f.blocks b := by simp [succB, labelsOf, lastOp, hgl]; rw [if_neg (by omega)]; rfl
        simp (config := {maxSteps := 2000000, implicitDefEqProofs := false}) (disch := omega) only [↓reduceIte, go_sem, Int.reduceToNat, Nat.reduceAdd, Nat.reduceLeDiff, Nat.reduceEqDiff, Nat.reduceSub, Nat.reduceMul, reduceCtorEq, encFn, hb, encBk, hw, hi, encIn, hrl, hc1]
        exact ⟨s + 1, by rw [← hfin s b [] hb hsb]; simp, by omega, by omega⟩
    · have h0 : b.code = [] := List.eq_nil_of_length_eq_zero (by omega)
      have hsb : [] = succB f.blocks b := by simp [succB, labelsOf, lastOp, h0]
      simp (config := {maxSteps := 2000000, implicitDefEqProofs := false}) (disch := omega) only [↓reduceIte, go_sem, Int.reduceToNat, Nat.reduceAdd, Nat.reduceLeDiff, Nat.reduceEqDiff, Nat.reduceSub, Nat.reduceMul, reduceCtorEq, encFn, hb, encBk, hrl, hc1]
      exact ⟨s + 1, by rw [← hfin s b [] hb hsb]; simp, by omega, by omega⟩
  · simp (config := {maxSteps := 2000000, implicitDefEqProofs := false}) (disch := omega) only [↓reduceIte, go_sem, Int.reduceToNat, Nat.reduceAdd, Nat.reduceLeDiff, Nat.reduceEqDiff, Nat.reduceSub, Nat.reduceMul, reduceCtorEq]
    refine ⟨?_, rfl⟩
    rw [List.take_of_length_le (Nat.le_of_eq hrl), List.take_of_length_le (by simp [succF]; omega)]
end Go.Proofs.Yticjemfgbfphdaa.X
/- Who is reached: plain. -/
namespace Go.AM
open Go
set_option linter.unusedVariables false
inductive Rch (s : List (List Nat)) (wo : Int) : Nat → Prop where
  | base : 0 < s.length → (0 : Int) ≠ wo → Rch s wo 0
  | step {a b : Nat} : Rch s wo a → b ∈ s.getD a [] → (b : Int) ≠ wo → Rch s wo b
def WFs (s : List (List Nat)) : Prop := ∀ a, ∀ b ∈ s.getD a [], b < s.length
open Classical in
noncomputable def reachL (s : List (List Nat)) (wo : Int) : List Bool := (List.range s.length).map fun v => decide (Rch s wo v)
theorem reachL_len {s : List (List Nat)} {wo : Int} : (reachL s wo).length = s.length := by simp [reachL]
theorem Rch.lt {s : List (List Nat)} {wo : Int} {v : Nat} (hw : WFs s) (h : Rch s wo v) : v < s.length := by
  cases h with
  | base h _ => exact h
  | step _ h _ => exact hw _ _ h
theorem Rch.zero {s : List (List Nat)} {wo : Int} {v : Nat} (h : Rch s wo v) : 0 < s.length ∧ (0 : Int) ≠ wo := by
  induction h with
  | base h1 h2 => exact ⟨h1, h2⟩
  | step _ _ _ ih => exact ih
theorem Rch.ne {s : List (List Nat)} {wo : Int} {v : Nat} (h : Rch s wo v) : (v : Int) ≠ wo := by
  cases h with
  | base _ h => exact h
  | step _ _ h => exact h
theorem getDb_set (bs : List Bool) (i j : Nat) (hi : i < bs.length) : (bs.set i true).getD j false = if j = i then true else bs.getD j false := by
  simp only [List.getD_eq_getElem?_getD]
  by_cases h : j = i
  · subst h; rw [List.getElem?_set_self hi, if_pos rfl]; rfl
  · rw [List.getElem?_set_ne (Ne.symm h), if_neg h]
def Snd (s : List (List Nat)) (wo : Int) (bs : List Bool) : Prop := bs.length = s.length ∧ bs.getD 0 false = true ∧ ∀ v, bs.getD v false = true → Rch s wo v
def Cls (s : List (List Nat)) (wo : Int) (bs : List Bool) : Prop := ∀ a b, bs.getD a false = true → b ∈ s.getD a [] → (b : Int) ≠ wo → bs.getD b false = true
def LeB (a b : List Bool) : Prop := ∀ v, a.getD v false = true → b.getD v false = true
def cntB (bs : List Bool) : Nat := bs.countP id
theorem cnt_set : ∀ {bs : List Bool} {i : Nat}, i < bs.length → bs.getD i false = false → cntB (bs.set i true) = cntB bs + 1
  | [], i, h, _ => by simp at h
  | x :: bs, 0, h, h2 => by
    simp at h2
    subst h2
    simp [cntB]
  | x :: bs, i + 1, h, h2 => by
    have := cnt_set (bs := bs) (i := i) (by simpa using h) (by simpa using h2)
    simp only [cntB, List.set_cons_succ, List.countP_cons] at this ⊢
    omega
theorem cnt_le {bs : List Bool} : cntB bs ≤ bs.length := List.countP_le_length
theorem cnt_mono : ∀ {a b : List Bool}, a.length = b.length → LeB a b → cntB a ≤ cntB b ∧ ((∃ v, a.getD v false = false ∧ b.getD v false = true) → cntB a + 1 ≤ cntB b)
  | [], [], _, _ => ⟨Nat.le_refl _, fun ⟨v, _, h⟩ => by simp at h⟩
  | [], _ :: _, h, _ => by simp at h
  | _ :: _, [], h, _ => by simp at h
  | x :: a, y :: b, h, hl => by
    have h1 : LeB a b := fun v hv => by simpa using hl (v + 1) (by simpa using hv)
    have h0 : x = true → y = true := fun hx => by simpa using hl 0 (by simpa using hx)
    obtain ⟨g1, g2⟩ := cnt_mono (by simpa using h) h1
    simp only [cntB, List.countP_cons, id] at g1 g2 ⊢
    have hx : (if x = true then 1 else 0) ≤ (if y = true then 1 else 0) := by
      cases x <;> cases y <;> simp at h0 ⊢
    refine ⟨by omega, ?_⟩
    rintro ⟨v, e1, e2⟩
    cases v with
    | zero =>
      simp at e1 e2
      subst e1 e2
      simp at hx ⊢
      omega
    | succ v =>
      have := g2 ⟨v, by simpa using e1, by simpa using e2⟩
      omega
theorem Snd.set {s : List (List Nat)} {wo : Int} {bs : List Bool} {a b : Nat} (hw : WFs s) (h : Snd s wo bs) (ha : bs.getD a false = true) (hb : b ∈ s.getD a []) (hn : (b : Int) ≠ wo) : Snd s wo (bs.set b true) := by
  obtain ⟨h1, h2, h3⟩ := h
  have hl : b < bs.length := by rw [h1]; exact hw _ _ hb
  refine ⟨by simp [h1], ?_, fun v hv => ?_⟩
  · rw [getDb_set _ _ _ hl]
    split
    · rfl
    · exact h2
  · rw [getDb_set _ _ _ hl] at hv
    split at hv
    · rename_i e
      rw [e]
      exact .step (h3 a ha) hb hn
    · exact h3 v hv
theorem LeB.set {a bs : List Bool} {b : Nat} (h : LeB a bs) (hl : b < bs.length) : LeB a (bs.set b true) := fun v hv => by
  rw [getDb_set _ _ _ hl]
  split
  · rfl
  · exact h v hv
theorem set_same_b {bs : List Bool} {b : Nat} (h : bs.getD b false = true) : bs.set b true = bs := by
  apply List.ext_getElem?
  intro k
  by_cases hk : k = b
  · subst hk
    have hl : k < bs.length := by
      rcases Nat.lt_or_ge k bs.length with h' | h'
      · exact h'
      · simp [List.getD_eq_getElem?_getD, List.getElem?_eq_none h'] at h
    rw [List.getElem?_set_self hl]
    simp [List.getD_eq_getElem?_getD, hl] at h
    simp [hl, h]
  · rw [List.getElem?_set_ne (Ne.symm hk)]
theorem reach_done {s : List (List Nat)} {wo : Int} {bs : List Bool} (hw : WFs s) (h : Snd s wo bs) (hc : Cls s wo bs) : bs = reachL s wo := by
  classical
  have hall : ∀ v, Rch s wo v → bs.getD v false = true := fun v hv => by
    induction hv with
    | base _ _ => exact h.2.1
    | step _ hb hn ih => exact hc _ _ ih hb hn
  apply List.ext_getElem?
  intro k
  by_cases hk : k < s.length
  · have hk2 : k < bs.length := by rw [h.1]; exact hk
    have e : bs.getD k false = bs[k] := by simp [List.getD_eq_getElem?_getD, hk2]
    rw [List.getElem?_eq_getElem hk2]
    simp only [reachL, List.getElem?_map, List.getElem?_range hk, Option.map_some, Option.some.injEq]
    rw [Bool.eq_iff_iff, decide_eq_true_iff, ← e]
    exact ⟨h.2.2 k, hall k⟩
  · rw [List.getElem?_eq_none (by rw [h.1]; omega), List.getElem?_eq_none (by rw [reachL_len]; omega)]
theorem reach_none {s : List (List Nat)} {wo : Int} (h : ¬ (0 < s.length ∧ (0 : Int) ≠ wo)) : List.replicate s.length false = reachL s wo := by
  classical
  apply List.ext_getElem?
  intro k
  by_cases hk : k < s.length
  · simp only [reachL, List.getElem?_map, List.getElem?_range hk, Option.map_some]
    rw [List.getElem?_replicate, if_pos hk, decide_eq_false (fun hr => h (Rch.zero hr))]
  · rw [List.getElem?_eq_none (by simp; omega), List.getElem?_eq_none (by rw [reachL_len]; omega)]
theorem reachL_get {s : List (List Nat)} {wo : Int} {v : Nat} (h : v < s.length) : ∃ b, (reachL s wo)[v]? = some b ∧ (b = true ↔ Rch s wo v) := by
  classical
  have hl : v < (reachL s wo).length := by rw [reachL_len]; exact h
  exact ⟨(reachL s wo)[v], List.getElem?_eq_getElem hl, by simp [reachL]⟩
/-- The start. -/
theorem snd_start {s : List (List Nat)} {wo : Int} (h1 : 0 < s.length) (h2 : (0 : Int) ≠ wo) : Snd s wo ((List.replicate s.length false).set 0 true) := by
  refine ⟨by simp, by rw [getDb_set _ _ _ (by simpa using h1)]; simp, fun v hv => ?_⟩
  rw [getDb_set _ _ _ (by simpa using h1)] at hv
  split at hv
  · rename_i e
    rw [e]
    exact .base h1 h2
  · simp [List.getD_eq_getElem?_getD, List.getElem?_replicate] at hv
    split at hv <;> simp at hv
theorem snd_cnt {s : List (List Nat)} {wo : Int} {bs : List Bool} (h : Snd s wo bs) : 1 ≤ cntB bs := by
  have h2 := h.2.1
  cases bs with
  | nil => simp at h2
  | cons x bs =>
    simp at h2
    subst h2
    simp only [cntB, List.countP_cons, id]
    simp
def encB1 (b : Bool) : List AV := [.bool b]
end Go.AM
/- The reference's reach. -/
namespace Go.Proofs.Yticjemfgbfphdaa.X
open Go Go.AM Go.Proofs
attribute [local go_sem ↓] w_skip w_lbl w_ops w_draw w_pre w_post w_alt w_seq w_cond w_block w_join w_loop w_exit w_ret w_scope w_rfunc l_nil l_cons th_n th_e th_r bk_n bk_r bk_e t_nil t_it t_call i_nil i_one i_grp s_nil s_cons c_call e_mv e_nil e_dyn e_nilb e_frz o_mov o_bin o_eq o_un o_conv o_len o_slen o_idx o_aix o_fad o_load o_store o_boxp o_boxo o_boxm o_alloc o_allocm o_alloca o_nilarr o_build o_bslp o_bslo o_slc o_sslc o_slc3 o_sidx o_mkfn o_mkmv o_vidx o_ext o_pick o_callf o_callb o_appd o_clear o_mxn o_field o_nilc o_make o_makeb o_buildm o_boxg o_mkif o_tass o_eqs o_callo o_callx k_int k_str k_bool k_grb k_grt k_some k_none k_arr k_lens k_lenf k_lenh k_lenb k_idxb k_idxs k_idxf k_idxh k_ld k_loadp k_loadr k_loade k_storer k_storee k_oin k_ois k_slcs k_slcf k_slch k_slc3s k_slc3f k_slc3h k_app2 k_apps k_appf k_apph k_cals k_cald k_cali k_cnb k_cna k_esn k_esc k_efn k_efc k_esh b_add b_sub b_mul b_quo b_rem b_and b_or b_xor b_andNot b_eql b_neq b_lss b_leq b_gtr b_geq b_shl b_shr b_seq b_sne b_slt b_sad q_bool q_str q_nil q_nilf u_not u_neg u_xor f_ret f_nor v_r v_c v_g v_reg v_ob v_set v_put v_so v_sn v_pn v_pc g_nil d_nil p_nil m_mv m_fr z_nil z_cons z_an z_ac g_cons d_cons p_cons y_mov y_bin y_eq y_un y_conv y_len y_slen y_idx y_aix y_fad y_load y_store y_boxp y_boxo y_boxm y_alloc y_alloca y_allocm y_nilarr y_build y_bslp y_bslo y_slc y_sslc y_slc3 y_sidx y_mkfn y_ext y_pick y_callf y_callb y_appd y_clear y_mxn y_field y_nilc y_make y_makeb y_buildm y_boxg y_mkif y_tass y_eqs y_callo y_mkmv y_callx y_vidx nb_if
attribute [local go_sem] nbd VL_mk VL2_mk If_t If_f If_not If_and If_or If_dt If_df If_et If_ef If_ne Ck_t Ck_h Opt_s ld_a ld_c lm_a lm_c renL ren keepR renA idxM invL getObs mapOb renOb allNone putAll fzR fzO fz fzL fzOb fzB frzOk upFrom mapR resOne resA cellsOf oneA oneAL isP isPL okSt kRows kParts fillA setAt bor bor0 bor1 bor2 borC borI key0 key1 key2 keysA fillM cellsM cellM unif ptrA ifOk kPartsM getObsM allNoneM zipU scal0 scalar eqC evNil evNilF memK keyX hideM xbor scal1 scalX scalOb bndA mkMag showM lendV hideV hideR hideOb hideL hideO showL backO noneO mapA List.map_cons List.map_nil List.cons_append List.nil_append List.append_nil List.drop_zero List.drop_succ_cons List.drop_nil List.take_succ_cons List.take_zero List.take_nil List.length_cons List.length_nil List.length_map List.getElem?_map Option.map_some Option.map_none Int.toNat_natCast Int.toNat_zero Int.toNat_one Int.natCast_nonneg List.flatMap_cons List.flatMap_nil List.all_cons List.all_nil List.any_cons List.any_nil Bool.or_false Bool.false_or Bool.or_true Bool.true_or Bool.and_true Bool.true_and Bool.and_false Bool.false_and Bool.not_true Bool.not_false beq_self_eq_true nb_self all_nil List.forall_mem_cons tk_map tk_app bs_self bs_dec bq_t bq_f Bool.not_not decide_true decide_false Bool.not_not and_self and_true true_and eq_self List.reverse_cons List.reverse_nil List.getElem?_cons_zero List.getElem?_cons_succ cond_true cond_false List.set_cons_zero List.set_cons_succ Nat.zero_add Nat.add_zero if_true if_false ite_true ite_false implies_true wrap64 wrap8
set_option linter.unusedVariables false
set_option linter.unusedSimpArgs false
set_option maxRecDepth 10000
theorem row_get {s : List (List Nat)} {a : Nat} (h : a < s.length) : (encRows s)[a]? = some [.sl ((s.getD a []).map encK)] := by
  simp [encRows, encRow, h]
theorem bool_get {bs : List Bool} {a : Nat} (h : a < bs.length) : (bs.map encB1)[a]? = some [.bool (bs.getD a false)] := by
  simp [encB1, h]
theorem bool_set {bs : List Bool} {b : Nat} : (bs.map encB1).set b [.bool true] = (bs.set b true).map encB1 := by
  rw [List.map_set]; rfl
set_option maxHeartbeats 4000000 in
theorem C21 (s : List (List Nat)) (wo : Int) (hw : WFs s) (hl : s.length < 1000000) (hr : ∀ a, (s.getD a []).length < 1000000) : Ctr Try.prog 21 [.sl (encRows s), .int .i64 0, .int .i64 wo] [] (ret [.sl ((reachL s wo).map encB1)]) := by
  apply ctr_b A21_ok rfl (Nat.le_of_ble_eq_true rfl)
  unfold A21
  simp only [initL, Nat.reduceAdd]
  have hlen : (encRows s).length = s.length := by simp [encRows]
  have hrep : List.replicate s.length [AV.bool false] = (List.replicate s.length false).map encB1 := by rw [List.map_replicate]; rfl
  simp (config := {maxSteps := 2000000, implicitDefEqProofs := false}) (disch := omega) only [↓reduceIte, go_sem, Int.reduceToNat, Nat.reduceAdd, Nat.reduceLeDiff, Nat.reduceEqDiff, Nat.reduceSub, Nat.reduceMul, reduceCtorEq, hlen, hrep]
  refine ifD (fun c => ?_) (fun c => ?_)
  · simp (config := {maxSteps := 2000000, implicitDefEqProofs := false}) (disch := omega) only [↓reduceIte, go_sem, Int.reduceToNat, Nat.reduceAdd, Nat.reduceLeDiff, Nat.reduceEqDiff, Nat.reduceSub, Nat.reduceMul, reduceCtorEq, hlen, hrep]
    refine ⟨?_, rfl⟩
    rw [← reach_none (fun h => by omega)]
    rw [List.take_of_length_le (by simp)]
  · simp (config := {maxSteps := 2000000, implicitDefEqProofs := false}) (disch := omega) only [↓reduceIte, go_sem, Int.reduceToNat, Nat.reduceAdd, Nat.reduceLeDiff, Nat.reduceEqDiff, Nat.reduceSub, Nat.reduceMul, reduceCtorEq, hlen, hrep]
    refine ifE (fun e => ?_) (fun e => ?_)
    · simp (config := {maxSteps := 2000000, implicitDefEqProofs := false}) (disch := omega) only [↓reduceIte, go_sem, Int.reduceToNat, Nat.reduceAdd, Nat.reduceLeDiff, Nat.reduceEqDiff, Nat.reduceSub, Nat.reduceMul, reduceCtorEq, hlen, hrep]
      refine ⟨?_, rfl⟩
      rw [← reach_none (fun h => h.2 e)]
      rw [List.take_of_length_le (by simp)]
    · have hn0 : 0 < s.length := by omega
      have h00 : (List.replicate s.length false)[0]? = some false := by simp [hn0]
      simp (config := {maxSteps := 2000000, implicitDefEqProofs := false}) (disch := omega) only [↓reduceIte, go_sem, Int.reduceToNat, Nat.reduceAdd, Nat.reduceLeDiff, Nat.reduceEqDiff, Nat.reduceSub, Nat.reduceMul, reduceCtorEq, hlen, hrep, h00, encB1, bool_set]
      have hst := snd_start hn0 e
      have hcnt := snd_cnt hst
      generalize (List.replicate s.length false).set 0 true = bs0 at hst hcnt ⊢
      refine loopL (σ := Nat × List Bool) (fun p => ⟨[(0, .sl (encRows s)), (2, .int .i64 wo), (7, .hs 13 0 0 s.length), (8, .int .i64 (p.1 : Int))], [(13, .arr 0 1 (p.2.map encB1))]⟩)
        (fun p => p.1 ≤ s.length ∧ Snd s wo p.2 ∧ (Cls s wo p.2 ∨ p.1 + 1 ≤ cntB p.2)) (fun p => s.length - p.1) (0, bs0) (by simp (config := {maxSteps := 2000000, implicitDefEqProofs := false}) (disch := omega) only [↓reduceIte, go_sem, Int.reduceToNat, Nat.reduceAdd, Nat.reduceLeDiff, Nat.reduceEqDiff, Nat.reduceSub, Nat.reduceMul, reduceCtorEq]; rfl) ⟨by omega, hst, .inr hcnt⟩ ?_
      rintro ⟨n, b0⟩ ⟨h1, h2, h3⟩
      simp only at h1 h2 h3
      simp (config := {maxSteps := 2000000, implicitDefEqProofs := false}) (disch := omega) only [↓reduceIte, go_sem, Int.reduceToNat, Nat.reduceAdd, Nat.reduceLeDiff, Nat.reduceEqDiff, Nat.reduceSub, Nat.reduceMul, reduceCtorEq, hlen]
      refine ifD (fun c2 => ?_) (fun c2 => ?_)
      · simp (config := {maxSteps := 2000000, implicitDefEqProofs := false}) (disch := omega) only [↓reduceIte, go_sem, Int.reduceToNat, Nat.reduceAdd, Nat.reduceLeDiff, Nat.reduceEqDiff, Nat.reduceSub, Nat.reduceMul, reduceCtorEq, hlen]
        refine loopL (σ := Nat × List Bool) (fun p => ⟨[(0, .sl (encRows s)), (2, .int .i64 wo), (7, .hs 13 0 0 s.length), (8, .int .i64 (n : Int)), (9, .int .i64 (p.1 : Int))], [(13, .arr 0 1 (p.2.map encB1))]⟩)
          (fun p => p.1 ≤ s.length ∧ Snd s wo p.2 ∧ LeB b0 p.2 ∧ (Cls s wo b0 → p.2 = b0) ∧ ∀ a, a < p.1 → ∀ b ∈ s.getD a [], b0.getD a false = true → (b : Int) ≠ wo → p.2.getD b false = true) (fun p => s.length - p.1) (0, b0) (by simp (config := {maxSteps := 2000000, implicitDefEqProofs := false}) (disch := omega) only [↓reduceIte, go_sem, Int.reduceToNat, Nat.reduceAdd, Nat.reduceLeDiff, Nat.reduceEqDiff, Nat.reduceSub, Nat.reduceMul, reduceCtorEq]; rfl) ⟨by omega, h2, fun v h => h, fun _ => rfl, fun a ha => by omega⟩ ?_
        rintro ⟨i, b1⟩ ⟨g1, g2, g3, g4, g5⟩
        simp only at g1 g2 g3 g4 g5
        simp (config := {maxSteps := 2000000, implicitDefEqProofs := false}) (disch := omega) only [↓reduceIte, go_sem, Int.reduceToNat, Nat.reduceAdd, Nat.reduceLeDiff, Nat.reduceEqDiff, Nat.reduceSub, Nat.reduceMul, reduceCtorEq, hlen]
        refine ifD (fun c3 => ?_) (fun c3 => ?_)
        · have hri := row_get (show i < s.length by omega)
          have hrl := hr i
          have hrm : ∀ k b, (s.getD i [])[k]? = some b → b ∈ s.getD i [] := fun k b h => List.mem_of_getElem? h
          generalize hrow : s.getD i [] = row at hri hrl hrm
          simp (config := {maxSteps := 2000000, implicitDefEqProofs := false}) (disch := omega) only [↓reduceIte, go_sem, Int.reduceToNat, Nat.reduceAdd, Nat.reduceLeDiff, Nat.reduceEqDiff, Nat.reduceSub, Nat.reduceMul, reduceCtorEq, hlen]
          refine loopL (σ := Nat × List Bool) (fun p => ⟨[(0, .sl (encRows s)), (2, .int .i64 wo), (7, .hs 13 0 0 s.length), (8, .int .i64 (n : Int)), (9, .int .i64 (i : Int)), (10, .int .i64 (p.1 : Int))], [(13, .arr 0 1 (p.2.map encB1))]⟩)
            (fun p => p.1 ≤ row.length ∧ Snd s wo p.2 ∧ LeB b0 p.2 ∧ (Cls s wo b0 → p.2 = b0) ∧ (∀ a, a < i → ∀ b ∈ s.getD a [], b0.getD a false = true → (b : Int) ≠ wo → p.2.getD b false = true) ∧ (0 < p.1 → p.2.getD i false = true) ∧ ∀ k b, k < p.1 → row[k]? = some b → (b : Int) ≠ wo → p.2.getD b false = true) (fun p => row.length - p.1) (0, b1) (by simp (config := {maxSteps := 2000000, implicitDefEqProofs := false}) (disch := omega) only [↓reduceIte, go_sem, Int.reduceToNat, Nat.reduceAdd, Nat.reduceLeDiff, Nat.reduceEqDiff, Nat.reduceSub, Nat.reduceMul, reduceCtorEq]; rfl) ⟨by omega, g2, g3, g4, g5, fun h => by omega, fun k b hk => by omega⟩ ?_
          rintro ⟨k, b2⟩ ⟨f1, f2, f3, f4, f5, f6, f7⟩
          simp only at f1 f2 f3 f4 f5 f6 f7
          have hbi : b2[i]? = some (b2.getD i false) := by
            rw [List.getElem?_eq_getElem (by rw [f2.1]; omega)]
            simp [List.getD_eq_getElem?_getD, show i < b2.length by rw [f2.1]; omega]
          generalize hx : b2.getD i false = x at hbi f6
          simp (config := {maxSteps := 2000000, implicitDefEqProofs := false}) (disch := omega) only [↓reduceIte, go_sem, Int.reduceToNat, Nat.reduceAdd, Nat.reduceLeDiff, Nat.reduceEqDiff, Nat.reduceSub, Nat.reduceMul, reduceCtorEq, hlen, hbi, encB1]
          refine ifL (fun e1 => ?_) (fun e1 => ?_)
          · have hx := hx.trans e1
            simp (config := {maxSteps := 2000000, implicitDefEqProofs := false}) (disch := omega) only [↓reduceIte, go_sem, Int.reduceToNat, Nat.reduceAdd, Nat.reduceLeDiff, Nat.reduceEqDiff, Nat.reduceSub, Nat.reduceMul, reduceCtorEq, hlen, hri, e1]
            refine ifD (fun c4 => ?_) (fun c4 => ?_)
            · obtain ⟨b, hb⟩ : ∃ b, row[k]? = some b := ⟨_, List.getElem?_eq_getElem (by omega)⟩
              have hbm : b ∈ s.getD i [] := by rw [hrow]; exact hrm k b hb
              have hbl : b < b2.length := by rw [f2.1]; exact hw i b hbm
              have hbn : b < s.length := hw i b hbm
              have hbb : b2[b]? = some b2[b] := List.getElem?_eq_getElem hbl
              simp (config := {maxSteps := 2000000, implicitDefEqProofs := false}) (disch := omega) only [↓reduceIte, go_sem, Int.reduceToNat, Nat.reduceAdd, Nat.reduceLeDiff, Nat.reduceEqDiff, Nat.reduceSub, Nat.reduceMul, reduceCtorEq, hlen, hri, hb, encK, e1]
              refine ifE (fun e2 => ?_) (fun e2 => ?_)
              · simp (config := {maxSteps := 2000000, implicitDefEqProofs := false}) (disch := omega) only [↓reduceIte, go_sem, Int.reduceToNat, Nat.reduceAdd, Nat.reduceLeDiff, Nat.reduceEqDiff, Nat.reduceSub, Nat.reduceMul, reduceCtorEq, hlen, hri, hb, encK, e1]
                refine ⟨(k + 1, b2), by simp, ⟨by omega, f2, f3, f4, f5, fun _ => hx, fun k' b' hk' hb' hn => ?_⟩, by simp only; omega⟩
                by_cases hkk : k' = k
                · subst hkk; rw [hb] at hb'; cases hb'; exact absurd e2 hn
                · exact f7 k' b' (by omega) hb' hn
              · simp (config := {maxSteps := 2000000, implicitDefEqProofs := false}) (disch := omega) only [↓reduceIte, go_sem, Int.reduceToNat, Nat.reduceAdd, Nat.reduceLeDiff, Nat.reduceEqDiff, Nat.reduceSub, Nat.reduceMul, reduceCtorEq, hlen, hri, hb, encK, e1, hbb, encB1, bool_set]
                refine ⟨(k + 1, b2.set b true), by simp, ⟨by omega, f2.set hw hx hbm e2, f3.set hbl, fun hc => ?_, fun a ha b' hb' h0 hn => ?_, fun _ => ?_, fun k' b' hk' hb' hn => ?_⟩, by simp only; omega⟩
                · have he := f4 hc
                  simp only
                  rw [← he]
                  exact set_same_b (by rw [he]; exact hc i b (by rw [← he]; exact hx) hbm e2)
                · exact (LeB.set (fun _ h => h) hbl) _ (f5 a ha b' hb' h0 hn)
                · exact (LeB.set (fun _ h => h) hbl) _ hx
                · by_cases hkk : k' = k
                  · subst hkk; rw [hb] at hb'; cases hb'
                    rw [getDb_set _ _ _ hbl, if_pos rfl]
                  · exact (LeB.set (fun _ h => h) hbl) _ (f7 k' b' (by omega) hb' hn)
            · simp (config := {maxSteps := 2000000, implicitDefEqProofs := false}) (disch := omega) only [↓reduceIte, go_sem, Int.reduceToNat, Nat.reduceAdd, Nat.reduceLeDiff, Nat.reduceEqDiff, Nat.reduceSub, Nat.reduceMul, reduceCtorEq, hlen, hri, e1]
              refine ⟨(i + 1, b2), by simp, ⟨by omega, f2, f3, f4, fun a ha b hb h0 hn => ?_⟩, by simp only; omega⟩
              by_cases hai : a = i
              · subst hai
                rw [hrow] at hb
                obtain ⟨k', hk', rfl⟩ := List.getElem_of_mem hb
                exact f7 k' _ (by omega) (List.getElem?_eq_getElem hk') hn
              · exact f5 a (by omega) b hb h0 hn
          · have hx := hx.trans e1
            simp (config := {maxSteps := 2000000, implicitDefEqProofs := false}) (disch := omega) only [↓reduceIte, go_sem, Int.reduceToNat, Nat.reduceAdd, Nat.reduceLeDiff, Nat.reduceEqDiff, Nat.reduceSub, Nat.reduceMul, reduceCtorEq, hlen, e1]
            refine ⟨(i + 1, b2), by simp, ⟨by omega, f2, f3, f4, fun a ha b hb h0 hn => ?_⟩, by simp only; omega⟩
            by_cases hai : a = i
            · subst hai
              have := f3 a h0
              rw [hx] at this
              cases this
            · exact f5 a (by omega) b hb h0 hn
        · simp (config := {maxSteps := 2000000, implicitDefEqProofs := false}) (disch := omega) only [↓reduceIte, go_sem, Int.reduceToNat, Nat.reduceAdd, Nat.reduceLeDiff, Nat.reduceEqDiff, Nat.reduceSub, Nat.reduceMul, reduceCtorEq, hlen]
          have hin : i = s.length := by omega
          subst hin
          refine ⟨(n + 1, b1), by simp, ⟨by omega, g2, ?_⟩, by simp only; omega⟩
          by_cases hc : Cls s wo b0
          · left
            simp only
            rw [g4 hc]
            exact hc
          · right
            have hcn := h3.resolve_left hc
            have hm := (cnt_mono (by rw [h2.1, g2.1]) g3).2
            have : ∃ a b, b0.getD a false = true ∧ b ∈ s.getD a [] ∧ (b : Int) ≠ wo ∧ b0.getD b false = false := by
              refine Classical.byContradiction fun hno => hc fun a b ha hb hn => ?_
              cases hx : b0.getD b false with
              | true => rfl
              | false => exact absurd ⟨a, b, ha, hb, hn, hx⟩ hno
            obtain ⟨a, b, ha, hb, hn, hx⟩ := this
            have hal : a < s.length := by rw [← h2.1]; rcases Nat.lt_or_ge a b0.length with h' | h'; exact h'; simp [List.getD_eq_getElem?_getD, List.getElem?_eq_none h'] at ha
            have := hm ⟨b, hx, g5 a hal b hb ha hn⟩
            simp only
            omega
      · simp (config := {maxSteps := 2000000, implicitDefEqProofs := false}) (disch := omega) only [↓reduceIte, go_sem, Int.reduceToNat, Nat.reduceAdd, Nat.reduceLeDiff, Nat.reduceEqDiff, Nat.reduceSub, Nat.reduceMul, reduceCtorEq, hlen]
        refine ⟨?_, rfl⟩
        have hc : Cls s wo b0 := h3.resolve_right fun h => by
          have := cnt_le (bs := b0)
          rw [h2.1] at this
          omega
        rw [reach_done hw h2 hc, List.take_of_length_le (by simp [reachL_len])]
end Go.Proofs.Yticjemfgbfphdaa.X
/- The reference's dominators. -/
namespace Go.Proofs.Yticjemfgbfphdaa.X
open Go Go.AM Go.Proofs
attribute [local go_sem ↓] w_skip w_lbl w_ops w_draw w_pre w_post w_alt w_seq w_cond w_block w_join w_loop w_exit w_ret w_scope w_rfunc l_nil l_cons th_n th_e th_r bk_n bk_r bk_e t_nil t_it t_call i_nil i_one i_grp s_nil s_cons c_call e_mv e_nil e_dyn e_nilb e_frz o_mov o_bin o_eq o_un o_conv o_len o_slen o_idx o_aix o_fad o_load o_store o_boxp o_boxo o_boxm o_alloc o_allocm o_alloca o_nilarr o_build o_bslp o_bslo o_slc o_sslc o_slc3 o_sidx o_mkfn o_mkmv o_vidx o_ext o_pick o_callf o_callb o_appd o_clear o_mxn o_field o_nilc o_make o_makeb o_buildm o_boxg o_mkif o_tass o_eqs o_callo o_callx k_int k_str k_bool k_grb k_grt k_some k_none k_arr k_lens k_lenf k_lenh k_lenb k_idxb k_idxs k_idxf k_idxh k_ld k_loadp k_loadr k_loade k_storer k_storee k_oin k_ois k_slcs k_slcf k_slch k_slc3s k_slc3f k_slc3h k_app2 k_apps k_appf k_apph k_cals k_cald k_cali k_cnb k_cna k_esn k_esc k_efn k_efc k_esh b_add b_sub b_mul b_quo b_rem b_and b_or b_xor b_andNot b_eql b_neq b_lss b_leq b_gtr b_geq b_shl b_shr b_seq b_sne b_slt b_sad q_bool q_str q_nil q_nilf u_not u_neg u_xor f_ret f_nor v_r v_c v_g v_reg v_ob v_set v_put v_so v_sn v_pn v_pc g_nil d_nil p_nil m_mv m_fr z_nil z_cons z_an z_ac g_cons d_cons p_cons y_mov y_bin y_eq y_un y_conv y_len y_slen y_idx y_aix y_fad y_load y_store y_boxp y_boxo y_boxm y_alloc y_alloca y_allocm y_nilarr y_build y_bslp y_bslo y_slc y_sslc y_slc3 y_sidx y_mkfn y_ext y_pick y_callf y_callb y_appd y_clear y_mxn y_field y_nilc y_make y_makeb y_buildm y_boxg y_mkif y_tass y_eqs y_callo y_mkmv y_callx y_vidx nb_if
attribute [local go_sem] nbd VL_mk VL2_mk If_t If_f If_not If_and If_or If_dt If_df If_et If_ef If_ne Ck_t Ck_h Opt_s ld_a ld_c lm_a lm_c renL ren keepR renA idxM invL getObs mapOb renOb allNone putAll fzR fzO fz fzL fzOb fzB frzOk upFrom mapR resOne resA cellsOf oneA oneAL isP isPL okSt kRows kParts fillA setAt bor bor0 bor1 bor2 borC borI key0 key1 key2 keysA fillM cellsM cellM unif ptrA ifOk kPartsM getObsM allNoneM zipU scal0 scalar eqC evNil evNilF memK keyX hideM xbor scal1 scalX scalOb bndA mkMag showM lendV hideV hideR hideOb hideL hideO showL backO noneO mapA List.map_cons List.map_nil List.cons_append List.nil_append List.append_nil List.drop_zero List.drop_succ_cons List.drop_nil List.take_succ_cons List.take_zero List.take_nil List.length_cons List.length_nil List.length_map List.getElem?_map Option.map_some Option.map_none Int.toNat_natCast Int.toNat_zero Int.toNat_one Int.natCast_nonneg List.flatMap_cons List.flatMap_nil List.all_cons List.all_nil List.any_cons List.any_nil Bool.or_false Bool.false_or Bool.or_true Bool.true_or Bool.and_true Bool.true_and Bool.and_false Bool.false_and Bool.not_true Bool.not_false beq_self_eq_true nb_self all_nil List.forall_mem_cons tk_map tk_app bs_self bs_dec bq_t bq_f Bool.not_not decide_true decide_false Bool.not_not and_self and_true true_and eq_self List.reverse_cons List.reverse_nil List.getElem?_cons_zero List.getElem?_cons_succ cond_true cond_false List.set_cons_zero List.set_cons_succ Nat.zero_add Nat.add_zero if_true if_false ite_true ite_false implies_true wrap64 wrap8
set_option linter.unusedVariables false
set_option linter.unusedSimpArgs false
set_option maxRecDepth 10000
open Classical in
noncomputable def isD (s : List (List Nat)) (a b : Nat) : Bool := decide (Rch s (-1) b ∧ (a = b ∨ ¬ Rch s (a : Int) b))
noncomputable def cntD (s : List (List Nat)) (b : Nat) : Nat := ((List.range s.length).filter fun a => isD s a b).length
noncomputable def cntTo (s : List (List Nat)) (b n : Nat) : Nat := ((List.range n).filter fun a => isD s a b).length
theorem cntTo_succ {s : List (List Nat)} {b n : Nat} : cntTo s b (n + 1) = cntTo s b n + (if isD s n b = true then 1 else 0) := by
  unfold cntTo
  rw [List.range_succ, List.filter_append, List.length_append]
  by_cases h : isD s n b = true
  · simp [h]
  · simp [h]
theorem cntTo_le {s : List (List Nat)} {b n : Nat} : cntTo s b n ≤ n := by
  unfold cntTo
  have := List.length_filter_le (fun a => isD s a b) (List.range n)
  rwa [List.length_range] at this
noncomputable def stepD (s : List (List Nat)) (b : Nat) (p : Int × Nat) (a : Nat) : Int × Nat := if a ≠ b ∧ isD s a b = true ∧ p.2 < cntD s a then ((a : Int), cntD s a) else p
noncomputable def foldD (s : List (List Nat)) (b n : Nat) : Int × Nat := (List.range n).foldl (stepD s b) (-1, 0)
theorem foldD_succ {s : List (List Nat)} {b n : Nat} : foldD s b (n + 1) = stepD s b (foldD s b n) n := by
  unfold foldD
  rw [List.range_succ, List.foldl_append]; rfl
noncomputable def idomR (s : List (List Nat)) (b : Nat) : Int := (foldD s b s.length).1
/-- A graph that is one. -/
structure GrOk (s : List (List Nat)) : Prop where
  wf : WFs s
  len : s.length < 1000000
  row : ∀ a, (s.getD a []).length < 1000000
theorem C18 (s : List (List Nat)) (hs : GrOk s) (a b : Nat) (ha : a < s.length) (hb : b < s.length) : Ctr Try.prog 18 [.sl (encRows s), .int .i64 (a : Int), .int .i64 (b : Int)] [] (ret [.bool (isD s a b)]) := by
  classical
  obtain ⟨x, hx, hxr⟩ := reachL_get (wo := -1) hb
  obtain ⟨y, hy, hyr⟩ := reachL_get (wo := (a : Int)) hb
  apply ctr_b A18_ok rfl (Nat.le_of_ble_eq_true rfl)
  unfold A18
  simp only [initL, Nat.reduceAdd]
  have hlen : (encRows s).length = s.length := by simp [encRows]
  have h1 : decide ((a : Int) < 0) = false := decide_eq_false (by omega)
  have h2 : decide ((b : Int) < 0) = false := decide_eq_false (by omega)
  have h3 : decide ((a : Int) ≥ (s.length : Int)) = false := decide_eq_false (by omega)
  have h4 : decide ((b : Int) ≥ (s.length : Int)) = false := decide_eq_false (by omega)
  simp (config := {maxSteps := 2000000, implicitDefEqProofs := false}) (disch := omega) only [↓reduceIte, go_sem, Int.reduceToNat, Nat.reduceAdd, Nat.reduceLeDiff, Nat.reduceEqDiff, Nat.reduceSub, Nat.reduceMul, reduceCtorEq, hlen, h1, h2, h3, h4]
  refine callL (C21 s (-1) hs.wf hs.len hs.row) ?_
  simp (config := {maxSteps := 2000000, implicitDefEqProofs := false}) (disch := omega) only [↓reduceIte, go_sem, Int.reduceToNat, Nat.reduceAdd, Nat.reduceLeDiff, Nat.reduceEqDiff, Nat.reduceSub, Nat.reduceMul, reduceCtorEq, hlen, h1, h2, h3, h4, hx, encB1]
  refine ifL (fun e => ?_) (fun e => ?_)
  · simp (config := {maxSteps := 2000000, implicitDefEqProofs := false}) (disch := omega) only [↓reduceIte, go_sem, Int.reduceToNat, Nat.reduceAdd, Nat.reduceLeDiff, Nat.reduceEqDiff, Nat.reduceSub, Nat.reduceMul, reduceCtorEq, hlen, h1, h2, h3, h4, hx, encB1, e]
    refine ifE (fun e2 => ?_) (fun e2 => ?_)
    · simp (config := {maxSteps := 2000000, implicitDefEqProofs := false}) (disch := omega) only [↓reduceIte, go_sem, Int.reduceToNat, Nat.reduceAdd, Nat.reduceLeDiff, Nat.reduceEqDiff, Nat.reduceSub, Nat.reduceMul, reduceCtorEq, hlen, h1, h2, h3, h4, hx, encB1, e]
      refine ⟨?_, rfl⟩
      rw [isD, decide_eq_true ⟨hxr.1 e, .inl (by omega)⟩]
    · simp (config := {maxSteps := 2000000, implicitDefEqProofs := false}) (disch := omega) only [↓reduceIte, go_sem, Int.reduceToNat, Nat.reduceAdd, Nat.reduceLeDiff, Nat.reduceEqDiff, Nat.reduceSub, Nat.reduceMul, reduceCtorEq, hlen, h1, h2, h3, h4, hx, encB1, e]
      refine callL (C21 s (a : Int) hs.wf hs.len hs.row) ?_
      simp (config := {maxSteps := 2000000, implicitDefEqProofs := false}) (disch := omega) only [↓reduceIte, go_sem, Int.reduceToNat, Nat.reduceAdd, Nat.reduceLeDiff, Nat.reduceEqDiff, Nat.reduceSub, Nat.reduceMul, reduceCtorEq, hlen, h1, h2, h3, h4, hx, hy, encB1, e]
      refine ⟨?_, rfl⟩
      congr 2
      rw [isD, Bool.eq_iff_iff, decide_eq_true_iff]
      constructor
      · intro h
        refine ⟨hxr.1 e, .inr fun hr => ?_⟩
        rw [hyr.2 hr] at h
        cases h
      · rintro ⟨_, h | h⟩
        · exact absurd (by omega) e2
        · cases hyb : y with
          | false => rfl
          | true => exact absurd (hyr.1 hyb) h
  · simp (config := {maxSteps := 2000000, implicitDefEqProofs := false}) (disch := omega) only [↓reduceIte, go_sem, Int.reduceToNat, Nat.reduceAdd, Nat.reduceLeDiff, Nat.reduceEqDiff, Nat.reduceSub, Nat.reduceMul, reduceCtorEq, hlen, h1, h2, h3, h4, hx, encB1, e]
    refine ⟨?_, rfl⟩
    rw [isD, decide_eq_false]
    rintro ⟨h, _⟩
    rw [hxr.2 h] at e
    cases e
theorem C14 (s : List (List Nat)) (hs : GrOk s) (b : Nat) (hb : b < s.length) : Ctr Try.prog 14 [.sl (encRows s), .int .i64 (b : Int)] [] (ret [.int .i64 (cntD s b : Int)]) := by
  apply ctr_b A14_ok rfl (Nat.le_of_ble_eq_true rfl)
  unfold A14
  simp only [initL, Nat.reduceAdd]
  have hlen : (encRows s).length = s.length := by simp [encRows]
  have hl := hs.len
  simp (config := {maxSteps := 2000000, implicitDefEqProofs := false}) (disch := omega) only [↓reduceIte, go_sem, Int.reduceToNat, Nat.reduceAdd, Nat.reduceLeDiff, Nat.reduceEqDiff, Nat.reduceSub, Nat.reduceMul, reduceCtorEq]
  refine loopL (σ := Nat) (fun n => ⟨[(0, .sl (encRows s)), (1, .int .i64 (b : Int)), (5, .int .i64 (cntTo s b n : Int)), (6, .int .i64 (n : Int))], []⟩) (fun n => n ≤ s.length) (fun n => s.length - n) 0 (by simp (config := {maxSteps := 2000000, implicitDefEqProofs := false}) (disch := omega) only [↓reduceIte, go_sem, Int.reduceToNat, Nat.reduceAdd, Nat.reduceLeDiff, Nat.reduceEqDiff, Nat.reduceSub, Nat.reduceMul, reduceCtorEq]; rfl) (Nat.zero_le _) ?_
  intro n hn
  have hcl := cntTo_le (s := s) (b := b) (n := n)
  simp (config := {maxSteps := 2000000, implicitDefEqProofs := false}) (disch := omega) only [↓reduceIte, go_sem, Int.reduceToNat, Nat.reduceAdd, Nat.reduceLeDiff, Nat.reduceEqDiff, Nat.reduceSub, Nat.reduceMul, reduceCtorEq, hlen]
  refine ifD (fun c => ?_) (fun c => ?_)
  · simp (config := {maxSteps := 2000000, implicitDefEqProofs := false}) (disch := omega) only [↓reduceIte, go_sem, Int.reduceToNat, Nat.reduceAdd, Nat.reduceLeDiff, Nat.reduceEqDiff, Nat.reduceSub, Nat.reduceMul, reduceCtorEq]
    refine callL (C18 s hs n b (by omega) hb) ?_
    simp (config := {maxSteps := 2000000, implicitDefEqProofs := false}) (disch := omega) only [↓reduceIte, go_sem, Int.reduceToNat, Nat.reduceAdd, Nat.reduceLeDiff, Nat.reduceEqDiff, Nat.reduceSub, Nat.reduceMul, reduceCtorEq]
    refine ifL (fun e => ?_) (fun e => ?_)
    · simp (config := {maxSteps := 2000000, implicitDefEqProofs := false}) (disch := omega) only [↓reduceIte, go_sem, Int.reduceToNat, Nat.reduceAdd, Nat.reduceLeDiff, Nat.reduceEqDiff, Nat.reduceSub, Nat.reduceMul, reduceCtorEq]
      exact ⟨n + 1, by simp [cntTo_succ, e], by omega, by omega⟩
    · simp (config := {maxSteps := 2000000, implicitDefEqProofs := false}) (disch := omega) only [↓reduceIte, go_sem, Int.reduceToNat, Nat.reduceAdd, Nat.reduceLeDiff, Nat.reduceEqDiff, Nat.reduceSub, Nat.reduceMul, reduceCtorEq]
      exact ⟨n + 1, by simp [cntTo_succ, e], by omega, by omega⟩
  · simp (config := {maxSteps := 2000000, implicitDefEqProofs := false}) (disch := omega) only [↓reduceIte, go_sem, Int.reduceToNat, Nat.reduceAdd, Nat.reduceLeDiff, Nat.reduceEqDiff, Nat.reduceSub, Nat.reduceMul, reduceCtorEq]
    have : n = s.length := by omega
    subst this
    exact ⟨rfl, rfl⟩
theorem C12 (s : List (List Nat)) (hs : GrOk s) (b : Nat) (hb : b < s.length) : Ctr Try.prog 12 [.sl (encRows s), .int .i64 (b : Int)] [] (ret [.int .i64 (idomR s b)]) := by
  apply ctr_b A12_ok rfl (Nat.le_of_ble_eq_true rfl)
  unfold A12
  simp only [initL, Nat.reduceAdd]
  have hlen : (encRows s).length = s.length := by simp [encRows]
  have hl := hs.len
  simp (config := {maxSteps := 2000000, implicitDefEqProofs := false}) (disch := omega) only [↓reduceIte, go_sem, Int.reduceToNat, Nat.reduceAdd, Nat.reduceLeDiff, Nat.reduceEqDiff, Nat.reduceSub, Nat.reduceMul, reduceCtorEq]
  refine loopL (σ := Nat) (fun n => ⟨[(0, .sl (encRows s)), (1, .int .i64 (b : Int)), (5, .int .i64 (foldD s b n).1), (6, .int .i64 ((foldD s b n).2 : Int)), (7, .int .i64 (n : Int))], []⟩) (fun n => n ≤ s.length) (fun n => s.length - n) 0 (by simp (config := {maxSteps := 2000000, implicitDefEqProofs := false}) (disch := omega) only [↓reduceIte, go_sem, Int.reduceToNat, Nat.reduceAdd, Nat.reduceLeDiff, Nat.reduceEqDiff, Nat.reduceSub, Nat.reduceMul, reduceCtorEq]; rfl) (Nat.zero_le _) ?_
  intro n hn
  have hstep := foldD_succ (s := s) (b := b) (n := n)
  generalize hp : foldD s b n = p at hstep ⊢
  obtain ⟨p1, p2⟩ := p
  simp (config := {maxSteps := 2000000, implicitDefEqProofs := false}) (disch := omega) only [↓reduceIte, go_sem, Int.reduceToNat, Nat.reduceAdd, Nat.reduceLeDiff, Nat.reduceEqDiff, Nat.reduceSub, Nat.reduceMul, reduceCtorEq, hlen]
  refine ifD (fun c => ?_) (fun c => ?_)
  · simp (config := {maxSteps := 2000000, implicitDefEqProofs := false}) (disch := omega) only [↓reduceIte, go_sem, Int.reduceToNat, Nat.reduceAdd, Nat.reduceLeDiff, Nat.reduceEqDiff, Nat.reduceSub, Nat.reduceMul, reduceCtorEq]
    refine ifE (fun e => ?_) (fun e => ?_)
    · simp (config := {maxSteps := 2000000, implicitDefEqProofs := false}) (disch := omega) only [↓reduceIte, go_sem, Int.reduceToNat, Nat.reduceAdd, Nat.reduceLeDiff, Nat.reduceEqDiff, Nat.reduceSub, Nat.reduceMul, reduceCtorEq]
      have hst : foldD s b (n + 1) = (p1, p2) := by rw [hstep, stepD, if_neg (fun h => h.1 (by omega))]
      exact ⟨n + 1, by simp [hst], by omega, by omega⟩
    · simp (config := {maxSteps := 2000000, implicitDefEqProofs := false}) (disch := omega) only [↓reduceIte, go_sem, Int.reduceToNat, Nat.reduceAdd, Nat.reduceLeDiff, Nat.reduceEqDiff, Nat.reduceSub, Nat.reduceMul, reduceCtorEq]
      refine callL (C18 s hs n b (by omega) hb) ?_
      simp (config := {maxSteps := 2000000, implicitDefEqProofs := false}) (disch := omega) only [↓reduceIte, go_sem, Int.reduceToNat, Nat.reduceAdd, Nat.reduceLeDiff, Nat.reduceEqDiff, Nat.reduceSub, Nat.reduceMul, reduceCtorEq]
      refine ifL (fun e2 => ?_) (fun e2 => ?_)
      · simp (config := {maxSteps := 2000000, implicitDefEqProofs := false}) (disch := omega) only [↓reduceIte, go_sem, Int.reduceToNat, Nat.reduceAdd, Nat.reduceLeDiff, Nat.reduceEqDiff, Nat.reduceSub, Nat.reduceMul, reduceCtorEq, e2]
        refine callL (C14 s hs n (by omega)) ?_
        simp (config := {maxSteps := 2000000, implicitDefEqProofs := false}) (disch := omega) only [↓reduceIte, go_sem, Int.reduceToNat, Nat.reduceAdd, Nat.reduceLeDiff, Nat.reduceEqDiff, Nat.reduceSub, Nat.reduceMul, reduceCtorEq, e2]
        refine ifD (fun c3 => ?_) (fun c3 => ?_)
        · simp (config := {maxSteps := 2000000, implicitDefEqProofs := false}) (disch := omega) only [↓reduceIte, go_sem, Int.reduceToNat, Nat.reduceAdd, Nat.reduceLeDiff, Nat.reduceEqDiff, Nat.reduceSub, Nat.reduceMul, reduceCtorEq]
          refine callL (C14 s hs n (by omega)) ?_
          simp (config := {maxSteps := 2000000, implicitDefEqProofs := false}) (disch := omega) only [↓reduceIte, go_sem, Int.reduceToNat, Nat.reduceAdd, Nat.reduceLeDiff, Nat.reduceEqDiff, Nat.reduceSub, Nat.reduceMul, reduceCtorEq]
          have hst : foldD s b (n + 1) = ((n : Int), cntD s n) := by rw [hstep, stepD, if_pos ⟨by omega, e2, by simp only; omega⟩]
          exact ⟨n + 1, by simp [hst], by omega, by omega⟩
        · simp (config := {maxSteps := 2000000, implicitDefEqProofs := false}) (disch := omega) only [↓reduceIte, go_sem, Int.reduceToNat, Nat.reduceAdd, Nat.reduceLeDiff, Nat.reduceEqDiff, Nat.reduceSub, Nat.reduceMul, reduceCtorEq]
          have hst : foldD s b (n + 1) = (p1, p2) := by rw [hstep, stepD, if_neg (fun h => c3 (by have := h.2.2; simp only at this; omega))]
          exact ⟨n + 1, by simp [hst], by omega, by omega⟩
      · simp (config := {maxSteps := 2000000, implicitDefEqProofs := false}) (disch := omega) only [↓reduceIte, go_sem, Int.reduceToNat, Nat.reduceAdd, Nat.reduceLeDiff, Nat.reduceEqDiff, Nat.reduceSub, Nat.reduceMul, reduceCtorEq, e2]
        have hst : foldD s b (n + 1) = (p1, p2) := by rw [hstep, stepD, if_neg (fun h => by rw [h.2.1] at e2; cases e2)]
        exact ⟨n + 1, by simp [hst], by omega, by omega⟩
  · simp (config := {maxSteps := 2000000, implicitDefEqProofs := false}) (disch := omega) only [↓reduceIte, go_sem, Int.reduceToNat, Nat.reduceAdd, Nat.reduceLeDiff, Nat.reduceEqDiff, Nat.reduceSub, Nat.reduceMul, reduceCtorEq]
    have : n = s.length := by omega
    subst this
    exact ⟨by rw [idomR, hp], rfl⟩
end Go.Proofs.Yticjemfgbfphdaa.X
/- A tree of dominators, once it is made. -/
namespace Go.Proofs.Yticjemfgbfphdaa.X
open Go Go.AM Go.Proofs
attribute [local go_sem ↓] w_skip w_lbl w_ops w_draw w_pre w_post w_alt w_seq w_cond w_block w_join w_loop w_exit w_ret w_scope w_rfunc l_nil l_cons th_n th_e th_r bk_n bk_r bk_e t_nil t_it t_call i_nil i_one i_grp s_nil s_cons c_call e_mv e_nil e_dyn e_nilb e_frz o_mov o_bin o_eq o_un o_conv o_len o_slen o_idx o_aix o_fad o_load o_store o_boxp o_boxo o_boxm o_alloc o_allocm o_alloca o_nilarr o_build o_bslp o_bslo o_slc o_sslc o_slc3 o_sidx o_mkfn o_mkmv o_vidx o_ext o_pick o_callf o_callb o_appd o_clear o_mxn o_field o_nilc o_make o_makeb o_buildm o_boxg o_mkif o_tass o_eqs o_callo o_callx k_int k_str k_bool k_grb k_grt k_some k_none k_arr k_lens k_lenf k_lenh k_lenb k_idxb k_idxs k_idxf k_idxh k_ld k_loadp k_loadr k_loade k_storer k_storee k_oin k_ois k_slcs k_slcf k_slch k_slc3s k_slc3f k_slc3h k_app2 k_apps k_appf k_apph k_cals k_cald k_cali k_cnb k_cna k_esn k_esc k_efn k_efc k_esh b_add b_sub b_mul b_quo b_rem b_and b_or b_xor b_andNot b_eql b_neq b_lss b_leq b_gtr b_geq b_shl b_shr b_seq b_sne b_slt b_sad q_bool q_str q_nil q_nilf u_not u_neg u_xor f_ret f_nor v_r v_c v_g v_reg v_ob v_set v_put v_so v_sn v_pn v_pc g_nil d_nil p_nil m_mv m_fr z_nil z_cons z_an z_ac g_cons d_cons p_cons y_mov y_bin y_eq y_un y_conv y_len y_slen y_idx y_aix y_fad y_load y_store y_boxp y_boxo y_boxm y_alloc y_alloca y_allocm y_nilarr y_build y_bslp y_bslo y_slc y_sslc y_slc3 y_sidx y_mkfn y_ext y_pick y_callf y_callb y_appd y_clear y_mxn y_field y_nilc y_make y_makeb y_buildm y_boxg y_mkif y_tass y_eqs y_callo y_mkmv y_callx y_vidx nb_if
attribute [local go_sem] nbd VL_mk VL2_mk If_t If_f If_not If_and If_or If_dt If_df If_et If_ef If_ne Ck_t Ck_h Opt_s ld_a ld_c lm_a lm_c renL ren keepR renA idxM invL getObs mapOb renOb allNone putAll fzR fzO fz fzL fzOb fzB frzOk upFrom mapR resOne resA cellsOf oneA oneAL isP isPL okSt kRows kParts fillA setAt bor bor0 bor1 bor2 borC borI key0 key1 key2 keysA fillM cellsM cellM unif ptrA ifOk kPartsM getObsM allNoneM zipU scal0 scalar eqC evNil evNilF memK keyX hideM xbor scal1 scalX scalOb bndA mkMag showM lendV hideV hideR hideOb hideL hideO showL backO noneO mapA List.map_cons List.map_nil List.cons_append List.nil_append List.append_nil List.drop_zero List.drop_succ_cons List.drop_nil List.take_succ_cons List.take_zero List.take_nil List.length_cons List.length_nil List.length_map List.getElem?_map Option.map_some Option.map_none Int.toNat_natCast Int.toNat_zero Int.toNat_one Int.natCast_nonneg List.flatMap_cons List.flatMap_nil List.all_cons List.all_nil List.any_cons List.any_nil Bool.or_false Bool.false_or Bool.or_true Bool.true_or Bool.and_true Bool.true_and Bool.and_false Bool.false_and Bool.not_true Bool.not_false beq_self_eq_true nb_self all_nil List.forall_mem_cons tk_map tk_app bs_self bs_dec bq_t bq_f Bool.not_not decide_true decide_false Bool.not_not and_self and_true true_and eq_self List.reverse_cons List.reverse_nil List.getElem?_cons_zero List.getElem?_cons_succ cond_true cond_false List.set_cons_zero List.set_cons_succ Nat.zero_add Nat.add_zero if_true if_false ite_true ite_false implies_true wrap64 wrap8
set_option linter.unusedVariables false
set_option linter.unusedSimpArgs false
set_option maxRecDepth 10000
def encTr (id od : List Int) : AV := .rp [.sl (id.map encN), .sl (od.map encN)]
def inT (od : List Int) (i : Int) : Bool := decide (0 ≤ i) && (decide (i < od.length) && (od.getD i.toNat (-1) != -1))
def idT (id od : List Int) (i : Int) : Int := if inT od i = true then id.getD i.toNat (-1) else -1
theorem intD {l : List Int} {k : Nat} (h : k < l.length) : l[k]? = some (l.getD k (-1)) := by
  rw [List.getElem?_eq_getElem h]
  simp [List.getD_eq_getElem?_getD, h]
theorem C35 (id od : List Int) (i : Int) : Ctr Try.prog 35 [encTr id od, .int .i64 i] [] (ret [.bool (inT od i)]) := by
  apply ctr_b A35_ok rfl (Nat.le_of_ble_eq_true rfl)
  unfold A35
  simp only [initL, Nat.reduceAdd, encTr]
  simp (config := {maxSteps := 2000000, implicitDefEqProofs := false}) (disch := omega) only [↓reduceIte, go_sem, Int.reduceToNat, Nat.reduceAdd, Nat.reduceLeDiff, Nat.reduceEqDiff, Nat.reduceSub, Nat.reduceMul, reduceCtorEq]
  refine ifD (fun h0 => ?_) (fun h0 => ?_)
  · simp (config := {maxSteps := 2000000, implicitDefEqProofs := false}) (disch := omega) only [↓reduceIte, go_sem, Int.reduceToNat, Nat.reduceAdd, Nat.reduceLeDiff, Nat.reduceEqDiff, Nat.reduceSub, Nat.reduceMul, reduceCtorEq]
    refine ifD (fun h1 => ?_) (fun h1 => ?_)
    · have hg := intD (l := od) (k := i.toNat) (by omega)
      simp (config := {maxSteps := 2000000, implicitDefEqProofs := false}) (disch := omega) only [↓reduceIte, go_sem, Int.reduceToNat, Nat.reduceAdd, Nat.reduceLeDiff, Nat.reduceEqDiff, Nat.reduceSub, Nat.reduceMul, reduceCtorEq, hg, encN]
      refine ⟨?_, rfl⟩
      rw [inT, decide_eq_true (show 0 ≤ i by omega), decide_eq_true h1]
      rfl
    · simp (config := {maxSteps := 2000000, implicitDefEqProofs := false}) (disch := omega) only [↓reduceIte, go_sem, Int.reduceToNat, Nat.reduceAdd, Nat.reduceLeDiff, Nat.reduceEqDiff, Nat.reduceSub, Nat.reduceMul, reduceCtorEq]
      refine ⟨?_, rfl⟩
      rw [inT, decide_eq_true (show 0 ≤ i by omega), decide_eq_false h1]
      rfl
  · simp (config := {maxSteps := 2000000, implicitDefEqProofs := false}) (disch := omega) only [↓reduceIte, go_sem, Int.reduceToNat, Nat.reduceAdd, Nat.reduceLeDiff, Nat.reduceEqDiff, Nat.reduceSub, Nat.reduceMul, reduceCtorEq]
    refine ⟨?_, rfl⟩
    rw [inT, decide_eq_false (show ¬ 0 ≤ i by omega)]
    rfl
theorem inT_lt {od : List Int} {i : Int} (h : inT od i = true) : 0 ≤ i ∧ i.toNat < od.length := by
  simp only [inT, Bool.and_eq_true, decide_eq_true_eq] at h
  omega
theorem C11 (id od : List Int) (hl : id.length = od.length) (i : Int) : Ctr Try.prog 11 [encTr id od, .int .i64 i] [] (ret [.int .i64 (idT id od i)]) := by
  apply ctr_b A11_ok rfl (Nat.le_of_ble_eq_true rfl)
  unfold A11
  simp only [initL, Nat.reduceAdd]
  have hp : isP (encTr id od) = true := rfl
  simp (config := {maxSteps := 2000000, implicitDefEqProofs := false}) (disch := omega) only [↓reduceIte, go_sem, Int.reduceToNat, Nat.reduceAdd, Nat.reduceLeDiff, Nat.reduceEqDiff, Nat.reduceSub, Nat.reduceMul, reduceCtorEq, hp]
  refine callL (C35 id od i) ?_
  simp (config := {maxSteps := 2000000, implicitDefEqProofs := false}) (disch := omega) only [↓reduceIte, go_sem, Int.reduceToNat, Nat.reduceAdd, Nat.reduceLeDiff, Nat.reduceEqDiff, Nat.reduceSub, Nat.reduceMul, reduceCtorEq, hp]
  refine ifL (fun h => ?_) (fun h => ?_)
  · have h2 := inT_lt h
    have hg := intD (l := id) (k := i.toNat) (by omega)
    simp only [encTr]
    simp (config := {maxSteps := 2000000, implicitDefEqProofs := false}) (disch := omega) only [↓reduceIte, go_sem, Int.reduceToNat, Nat.reduceAdd, Nat.reduceLeDiff, Nat.reduceEqDiff, Nat.reduceSub, Nat.reduceMul, reduceCtorEq, hg, encN, h]
    exact ⟨by rw [idT, if_pos h], rfl⟩
  · simp (config := {maxSteps := 2000000, implicitDefEqProofs := false}) (disch := omega) only [↓reduceIte, go_sem, Int.reduceToNat, Nat.reduceAdd, Nat.reduceLeDiff, Nat.reduceEqDiff, Nat.reduceSub, Nat.reduceMul, reduceCtorEq, h]
    exact ⟨by rw [idT, if_neg (by rw [h]; simp)], rfl⟩
/-- The way up from a block. -/
inductive Chn (id od : List Int) : Int → List Nat → Prop where
  | nil {i : Int} : inT od i = false → Chn id od i []
  | cons {k : Nat} {r : List Nat} : inT od (k : Int) = true → Chn id od (idT id od (k : Int)) r → Chn id od (k : Int) (k :: r)
theorem C20 (id od : List Int) (hl : id.length = od.length) (i : Int) (l : List Nat) (hc : Chn id od i l) (hll : l.length < 1000000) : Ctr Try.prog 20 [encTr id od, .int .i64 i] [] (ret [.sl (l.map encK)]) := by
  apply ctr_b A20_ok rfl (Nat.le_of_ble_eq_true rfl)
  unfold A20
  simp only [initL, Nat.reduceAdd]
  have hp : isP (encTr id od) = true := rfl
  simp (config := {maxSteps := 2000000, implicitDefEqProofs := false}) (disch := omega) only [↓reduceIte, go_sem, Int.reduceToNat, Nat.reduceAdd, Nat.reduceLeDiff, Nat.reduceEqDiff, Nat.reduceSub, Nat.reduceMul, reduceCtorEq, hp]
  refine loopL (σ := List Nat × Int × List Nat) (fun p => ⟨[(0, encTr id od), (1, .int .i64 p.2.1), (5, .hs 5 p.1.length 0 p.1.length)], [(5, .arr p.1.length 1 (p.1.map encK))]⟩) (fun p => p.1 ++ p.2.2 = l ∧ Chn id od p.2.1 p.2.2) (fun p => p.2.2.length) ([], i, l) (by simp (config := {maxSteps := 2000000, implicitDefEqProofs := false}) (disch := omega) only [↓reduceIte, go_sem, Int.reduceToNat, Nat.reduceAdd, Nat.reduceLeDiff, Nat.reduceEqDiff, Nat.reduceSub, Nat.reduceMul, reduceCtorEq]; rfl) ⟨rfl, hc⟩ ?_
  rintro ⟨d, j, r⟩ ⟨h1, h2⟩
  simp only at h1 h2
  have hlen : d.length + r.length = l.length := by rw [← h1, List.length_append]
  have hrn : ∀ m, ren m (encTr id od) = encTr id od := fun m => by simp only [encTr, ren]
  simp (config := {maxSteps := 2000000, implicitDefEqProofs := false}) (disch := omega) only [↓reduceIte, go_sem, Int.reduceToNat, Nat.reduceAdd, Nat.reduceLeDiff, Nat.reduceEqDiff, Nat.reduceSub, Nat.reduceMul, reduceCtorEq, hp]
  refine callL (C35 id od j) ?_
  simp (config := {maxSteps := 2000000, implicitDefEqProofs := false}) (disch := omega) only [↓reduceIte, go_sem, Int.reduceToNat, Nat.reduceAdd, Nat.reduceLeDiff, Nat.reduceEqDiff, Nat.reduceSub, Nat.reduceMul, reduceCtorEq, hp]
  refine ifL (fun h => ?_) (fun h => ?_)
  · have hex : ∃ k r', r = k :: r' ∧ j = (k : Int) ∧ Chn id od (idT id od (k : Int)) r' := by
      cases h2 with
      | nil h' => rw [h'] at h; cases h
      | cons h' hr => exact ⟨_, _, rfl, rfl, hr⟩
    obtain ⟨k, r', e1, e2, hr⟩ := hex
    have hc1 : ((d.length + 1 : Nat) : Int) * ((8 : Nat) : Int) ≤ 70368744177664 := by
      rw [e1, List.length_cons] at hlen
      omega
    simp (config := {maxSteps := 2000000, implicitDefEqProofs := false}) (disch := omega) only [↓reduceIte, go_sem, Int.reduceToNat, Nat.reduceAdd, Nat.reduceLeDiff, Nat.reduceEqDiff, Nat.reduceSub, Nat.reduceMul, reduceCtorEq, hp, h, hc1]
    refine callL (C11 id od hl j) ?_
    simp (config := {maxSteps := 2000000, implicitDefEqProofs := false}) (disch := omega) only [↓reduceIte, go_sem, Int.reduceToNat, Nat.reduceAdd, Nat.reduceLeDiff, Nat.reduceEqDiff, Nat.reduceSub, Nat.reduceMul, reduceCtorEq, hp, h, hc1, hrn]
    refine ⟨(d ++ [k], idT id od j, r'), by simp [e2, encK], ⟨by rw [← h1, e1]; simp, by rw [e2]; exact hr⟩, by rw [e1]; simp⟩
  · have hr0 : r = [] := by
      cases h2 with
      | nil _ => rfl
      | cons h' _ => rw [h'] at h; cases h
    simp (config := {maxSteps := 2000000, implicitDefEqProofs := false}) (disch := omega) only [↓reduceIte, go_sem, Int.reduceToNat, Nat.reduceAdd, Nat.reduceLeDiff, Nat.reduceEqDiff, Nat.reduceSub, Nat.reduceMul, reduceCtorEq, hp, h]
    rw [hr0, List.append_nil] at h1
    refine ⟨?_, rfl⟩
    rw [h1]
    try rw [List.take_of_length_le (by simp)]
theorem C17 (id od : List Int) (hl : id.length = od.length) (a i : Int) (l : List Nat) (hc : Chn id od i l) (hll : l.length < 1000000) : Ctr Try.prog 17 [encTr id od, .int .i64 a, .int .i64 i] [] (ret [.bool (decide (∃ k ∈ l, (k : Int) = a))]) := by
  apply ctr_b A17_ok rfl (Nat.le_of_ble_eq_true rfl)
  unfold A17
  simp only [initL, Nat.reduceAdd]
  have hp : isP (encTr id od) = true := rfl
  simp (config := {maxSteps := 2000000, implicitDefEqProofs := false}) (disch := omega) only [↓reduceIte, go_sem, Int.reduceToNat, Nat.reduceAdd, Nat.reduceLeDiff, Nat.reduceEqDiff, Nat.reduceSub, Nat.reduceMul, reduceCtorEq, hp]
  refine callL (C20 id od hl i l hc hll) ?_
  simp (config := {maxSteps := 2000000, implicitDefEqProofs := false}) (disch := omega) only [↓reduceIte, go_sem, Int.reduceToNat, Nat.reduceAdd, Nat.reduceLeDiff, Nat.reduceEqDiff, Nat.reduceSub, Nat.reduceMul, reduceCtorEq]
  refine callL (C34 l a hll) ?_
  simp (config := {maxSteps := 2000000, implicitDefEqProofs := false}) (disch := omega) only [↓reduceIte, go_sem, Int.reduceToNat, Nat.reduceAdd, Nat.reduceLeDiff, Nat.reduceEqDiff, Nat.reduceSub, Nat.reduceMul, reduceCtorEq]
  exact ⟨rfl, rfl⟩
theorem C13 (id od : List Int) (hl : id.length = od.length) (i : Int) (l : List Nat) (hc : Chn id od i l) (hll : l.length < 1000000) : Ctr Try.prog 13 [encTr id od, .int .i64 i] [] (ret [.int .i64 (l.length : Int)]) := by
  apply ctr_b A13_ok rfl (Nat.le_of_ble_eq_true rfl)
  unfold A13
  simp only [initL, Nat.reduceAdd]
  have hp : isP (encTr id od) = true := rfl
  simp (config := {maxSteps := 2000000, implicitDefEqProofs := false}) (disch := omega) only [↓reduceIte, go_sem, Int.reduceToNat, Nat.reduceAdd, Nat.reduceLeDiff, Nat.reduceEqDiff, Nat.reduceSub, Nat.reduceMul, reduceCtorEq, hp]
  refine callL (C20 id od hl i l hc hll) ?_
  simp (config := {maxSteps := 2000000, implicitDefEqProofs := false}) (disch := omega) only [↓reduceIte, go_sem, Int.reduceToNat, Nat.reduceAdd, Nat.reduceLeDiff, Nat.reduceEqDiff, Nat.reduceSub, Nat.reduceMul, reduceCtorEq]
  exact ⟨rfl, rfl⟩
/-- Whose nearest one a block is. -/
def kidsT (id : List Int) (i : Int) (n : Nat) : List Nat := (List.range n).filter fun k => decide (id.getD k (-1) = i)
theorem kidsT_succ {id : List Int} {i : Int} {n : Nat} : kidsT id i (n + 1) = if id.getD n (-1) = i then kidsT id i n ++ [n] else kidsT id i n := by
  unfold kidsT
  rw [List.range_succ, List.filter_append]
  by_cases h : id.getD n (-1) = i
  · rw [if_pos h]
    congr 1
    simp only [List.filter_cons, List.filter_nil, decide_eq_true h, if_true]
  · rw [if_neg h]
    simp only [List.filter_cons, List.filter_nil, decide_eq_false h, Bool.false_eq_true, if_false, List.append_nil]
theorem kidsT_le {id : List Int} {i : Int} {n : Nat} : (kidsT id i n).length ≤ n := by
  unfold kidsT
  have := List.length_filter_le (fun k => decide (id.getD k (-1) = i)) (List.range n)
  rwa [List.length_range] at this
def kidsL (id od : List Int) (i : Int) : List Nat := if inT od i = true then kidsT id i id.length else []
theorem C16 (id od : List Int) (hl : id.length = od.length) (hll : id.length < 1000000) (i : Int) : Ctr Try.prog 16 [encTr id od, .int .i64 i] [] (ret [.sl ((kidsL id od i).map encK)]) := by
  apply ctr_b A16_ok rfl (Nat.le_of_ble_eq_true rfl)
  unfold A16
  simp only [initL, Nat.reduceAdd]
  have hp : isP (encTr id od) = true := rfl
  simp (config := {maxSteps := 2000000, implicitDefEqProofs := false}) (disch := omega) only [↓reduceIte, go_sem, Int.reduceToNat, Nat.reduceAdd, Nat.reduceLeDiff, Nat.reduceEqDiff, Nat.reduceSub, Nat.reduceMul, reduceCtorEq, hp]
  refine callL (C35 id od i) ?_
  simp (config := {maxSteps := 2000000, implicitDefEqProofs := false}) (disch := omega) only [↓reduceIte, go_sem, Int.reduceToNat, Nat.reduceAdd, Nat.reduceLeDiff, Nat.reduceEqDiff, Nat.reduceSub, Nat.reduceMul, reduceCtorEq, hp]
  refine ifL (fun h => ?_) (fun h => ?_)
  · simp (config := {maxSteps := 2000000, implicitDefEqProofs := false}) (disch := omega) only [↓reduceIte, go_sem, Int.reduceToNat, Nat.reduceAdd, Nat.reduceLeDiff, Nat.reduceEqDiff, Nat.reduceSub, Nat.reduceMul, reduceCtorEq, hp, h, encTr]
    refine loopL (σ := Nat) (fun n => ⟨[(1, .int .i64 i), (5, .hs 5 (kidsT id i n).length 0 (kidsT id i n).length), (15, .sl (id.map encN)), (16, .int .i64 (id.length : Int)), (17, .int .i64 (n : Int))], [(5, .arr (kidsT id i n).length 1 ((kidsT id i n).map encK))]⟩) (fun n => n ≤ id.length) (fun n => id.length - n) 0 (by simp (config := {maxSteps := 2000000, implicitDefEqProofs := false}) (disch := omega) only [↓reduceIte, go_sem, Int.reduceToNat, Nat.reduceAdd, Nat.reduceLeDiff, Nat.reduceEqDiff, Nat.reduceSub, Nat.reduceMul, reduceCtorEq]; rfl) (Nat.zero_le _) ?_
    intro n hn
    have hk := kidsT_succ (id := id) (i := i) (n := n)
    have hkl := kidsT_le (id := id) (i := i) (n := n)
    generalize hke : kidsT id i n = ks at hk hkl ⊢
    simp (config := {maxSteps := 2000000, implicitDefEqProofs := false}) (disch := omega) only [↓reduceIte, go_sem, Int.reduceToNat, Nat.reduceAdd, Nat.reduceLeDiff, Nat.reduceEqDiff, Nat.reduceSub, Nat.reduceMul, reduceCtorEq]
    refine ifD (fun c => ?_) (fun c => ?_)
    · have hg := intD (l := id) (k := n) (by omega)
      have hc1 : ((ks.length + 1 : Nat) : Int) * ((8 : Nat) : Int) ≤ 70368744177664 := by omega
      simp (config := {maxSteps := 2000000, implicitDefEqProofs := false}) (disch := omega) only [↓reduceIte, go_sem, Int.reduceToNat, Nat.reduceAdd, Nat.reduceLeDiff, Nat.reduceEqDiff, Nat.reduceSub, Nat.reduceMul, reduceCtorEq, hg, encN]
      refine ifE (fun e => ?_) (fun e => ?_)
      · simp (config := {maxSteps := 2000000, implicitDefEqProofs := false}) (disch := omega) only [↓reduceIte, go_sem, Int.reduceToNat, Nat.reduceAdd, Nat.reduceLeDiff, Nat.reduceEqDiff, Nat.reduceSub, Nat.reduceMul, reduceCtorEq, hg, encN, hc1]
        rw [if_pos e] at hk
        exact ⟨n + 1, by simp [hk, encK], by omega, by omega⟩
      · simp (config := {maxSteps := 2000000, implicitDefEqProofs := false}) (disch := omega) only [↓reduceIte, go_sem, Int.reduceToNat, Nat.reduceAdd, Nat.reduceLeDiff, Nat.reduceEqDiff, Nat.reduceSub, Nat.reduceMul, reduceCtorEq, hg, encN]
        rw [if_neg e] at hk
        exact ⟨n + 1, by simp [hk], by omega, by omega⟩
    · simp (config := {maxSteps := 2000000, implicitDefEqProofs := false}) (disch := omega) only [↓reduceIte, go_sem, Int.reduceToNat, Nat.reduceAdd, Nat.reduceLeDiff, Nat.reduceEqDiff, Nat.reduceSub, Nat.reduceMul, reduceCtorEq]
      have : n = id.length := by omega
      subst this
      refine ⟨?_, rfl⟩
      rw [kidsL, if_pos h, hke]
      try rw [List.take_of_length_le (by simp)]
  · simp (config := {maxSteps := 2000000, implicitDefEqProofs := false}) (disch := omega) only [↓reduceIte, go_sem, Int.reduceToNat, Nat.reduceAdd, Nat.reduceLeDiff, Nat.reduceEqDiff, Nat.reduceSub, Nat.reduceMul, reduceCtorEq, h]
    exact ⟨by rw [kidsL, if_neg (by rw [h]; simp)]; rfl, rfl⟩
end Go.Proofs.Yticjemfgbfphdaa.X
