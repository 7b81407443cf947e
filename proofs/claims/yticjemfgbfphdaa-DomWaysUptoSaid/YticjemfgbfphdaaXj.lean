/- The law DomWays, walked. -/
import Derived.Test.YticjemfgbfphdaaXg
import Derived.Test.YticjemfgbfphdaaXm
namespace Go.Proofs.Yticjemfgbfphdaa.X
open Go Go.AM Go.Proofs
attribute [local go_sem ↓] w_skip w_lbl w_ops w_draw w_pre w_post w_alt w_seq w_cond w_block w_join w_loop w_exit w_ret w_scope w_rfunc l_nil l_cons th_n th_e th_r bk_n bk_r bk_e t_nil t_it t_call i_nil i_one i_grp s_nil s_cons c_call e_mv e_nil e_dyn e_nilb e_frz o_mov o_bin o_eq o_un o_conv o_len o_slen o_idx o_aix o_fad o_load o_store o_boxp o_boxo o_boxm o_alloc o_allocm o_alloca o_nilarr o_build o_bslp o_bslo o_slc o_sslc o_slc3 o_sidx o_mkfn o_mkmv o_vidx o_ext o_pick o_callf o_callb o_appd o_clear o_mxn o_field o_nilc o_make o_makeb o_buildm o_boxg o_mkif o_tass o_eqs o_callo o_callx k_int k_str k_bool k_grb k_grt k_some k_none k_arr k_lens k_lenf k_lenh k_lenb k_idxb k_idxs k_idxf k_idxh k_ld k_loadp k_loadr k_loade k_storer k_storee k_oin k_ois k_slcs k_slcf k_slch k_slc3s k_slc3f k_slc3h k_app2 k_apps k_appf k_apph k_cals k_cald k_cali k_cnb k_cna k_esn k_esc k_efn k_efc k_esh b_add b_sub b_mul b_quo b_rem b_and b_or b_xor b_andNot b_eql b_neq b_lss b_leq b_gtr b_geq b_shl b_shr b_seq b_sne b_slt b_sad q_bool q_str q_nil q_nilf u_not u_neg u_xor f_ret f_nor v_r v_c v_g v_reg v_ob v_set v_put v_so v_sn v_pn v_pc g_nil d_nil p_nil m_mv m_fr z_nil z_cons z_an z_ac g_cons d_cons p_cons y_mov y_bin y_eq y_un y_conv y_len y_slen y_idx y_aix y_fad y_load y_store y_boxp y_boxo y_boxm y_alloc y_alloca y_allocm y_nilarr y_build y_bslp y_bslo y_slc y_sslc y_slc3 y_sidx y_mkfn y_ext y_pick y_callf y_callb y_appd y_clear y_mxn y_field y_nilc y_make y_makeb y_buildm y_boxg y_mkif y_tass y_eqs y_callo y_mkmv y_callx y_vidx nb_if
attribute [local go_sem] nbd VL_mk VL2_mk If_t If_f If_not If_and If_or If_dt If_df If_et If_ef If_ne Ck_t Ck_h Opt_s ld_a ld_c lm_a lm_c renL ren keepR renA idxM invL getObs mapOb renOb allNone putAll fzR fzO fz fzL fzOb fzB frzOk upFrom mapR resOne resA cellsOf oneA oneAL isP isPL okSt kRows kParts fillA setAt bor bor0 bor1 bor2 borC borI key0 key1 key2 keysA fillM cellsM cellM unif ptrA ifOk kPartsM getObsM allNoneM zipU scal0 scalar eqC evNil evNilF memK keyX hideM xbor scal1 scalX scalOb bndA mkMag showM lendV hideV hideR hideOb hideL hideO showL backO noneO mapA List.map_cons List.map_nil List.cons_append List.nil_append List.append_nil List.drop_zero List.drop_succ_cons List.drop_nil List.take_succ_cons List.take_zero List.take_nil List.length_cons List.length_nil List.length_map List.getElem?_map Option.map_some Option.map_none Int.toNat_natCast Int.toNat_zero Int.toNat_one Int.natCast_nonneg List.flatMap_cons List.flatMap_nil List.all_cons List.all_nil List.any_cons List.any_nil Bool.or_false Bool.false_or Bool.or_true Bool.true_or Bool.and_true Bool.true_and Bool.and_false Bool.false_and Bool.not_true Bool.not_false beq_self_eq_true nb_self all_nil List.forall_mem_cons tk_map tk_app bs_self bs_dec bq_t bq_f Bool.not_not decide_true decide_false Bool.not_not and_self and_true true_and eq_self List.reverse_cons List.reverse_nil List.getElem?_cons_zero List.getElem?_cons_succ cond_true cond_false List.set_cons_zero List.set_cons_succ Nat.zero_add Nat.add_zero if_true if_false ite_true ite_false implies_true wrap64 wrap8
open Go.Bits
set_option linter.unusedVariables false
set_option linter.unusedSimpArgs false
set_option maxRecDepth 10000
theorem makeP_nb (d : Drf) : (makeP d).blocks.length = nBlk d := makeP_len
/-- All that dominate a block were gone through. -/
def Been (S : List (List Nat)) (b : Nat) (l : List Nat) : Prop := b < S.length ∧ Rch S (-1) b ∧ ∀ x, isD S x b = true → x = b ∨ x ∈ l
theorem Been.step {S : List (List Nat)} (hw : WFs S) {b c : Nat} {l : List Nat} (h : Been S b l) (hc : c ∈ S.getD b []) : Been S c (l ++ [b]) := by
  obtain ⟨h1, h2, h3⟩ := h
  refine ⟨hw _ _ hc, .step h2 hc (by omega), fun x hx => ?_⟩
  by_cases hxc : x = c
  · exact .inl hxc
  · right
    by_cases hxb : x = b
    · simp [hxb]
    · have hd : isD S x b = true := by
        rw [isD_iff]
        refine ⟨h2, .inr fun hr => ?_⟩
        exact ((isD_iff.1 hx).2.resolve_left hxc) (.step hr hc (by omega))
      rcases h3 x hd with e | e
      · exact absurd e hxb
      · simp [e]
set_option maxHeartbeats 4000000 in
theorem C5 (d : Drf) (hd : d.Ok) (hsm : sumC d.blocks ≤ 4000000) (tu : List Int) (htu : ∀ x ∈ tu, 0 ≤ x ∧ x < 256) : Ctr Try.prog 5 [.agg (encDr d), .sl (tu.map fun n => [.int .u8 n])] [] (ret [.bool true]) := by
  apply ctr_b A5_ok rfl (Nat.le_of_ble_eq_true rfl)
  unfold A5
  simp only [initL, Nat.reduceAdd]
  simp (config := {maxSteps := 2000000, implicitDefEqProofs := false}) (disch := omega) only [↓reduceIte, go_sem, Int.reduceToNat, Nat.reduceAdd, Nat.reduceLeDiff, Nat.reduceEqDiff, Nat.reduceSub, Nat.reduceMul, reduceCtorEq, encDr]
  refine callL (C22 d hsm) ?_
  simp (config := {maxSteps := 2000000, implicitDefEqProofs := false}) (disch := omega) only [↓reduceIte, go_sem, Int.reduceToNat, Nat.reduceAdd, Nat.reduceLeDiff, Nat.reduceEqDiff, Nat.reduceSub, Nat.reduceMul, reduceCtorEq, encDr]
  refine ifL (fun e => ?_) (fun e => ?_)
  · simp (config := {maxSteps := 2000000, implicitDefEqProofs := false}) (disch := omega) only [↓reduceIte, go_sem, Int.reduceToNat, Nat.reduceAdd, Nat.reduceLeDiff, Nat.reduceEqDiff, Nat.reduceSub, Nat.reduceMul, reduceCtorEq]
    refine callL C7 ?_
    simp (config := {maxSteps := 2000000, implicitDefEqProofs := false}) (disch := omega) only [↓reduceIte, go_sem, Int.reduceToNat, Nat.reduceAdd, Nat.reduceLeDiff, Nat.reduceEqDiff, Nat.reduceSub, Nat.reduceMul, reduceCtorEq]
    exact ⟨rfl, rfl⟩
  · simp (config := {maxSteps := 2000000, implicitDefEqProofs := false}) (disch := omega) only [↓reduceIte, go_sem, Int.reduceToNat, Nat.reduceAdd, Nat.reduceLeDiff, Nat.reduceEqDiff, Nat.reduceSub, Nat.reduceMul, reduceCtorEq]
    refine ifD (fun c => ?_) (fun c => ?_)
    · simp (config := {maxSteps := 2000000, implicitDefEqProofs := false}) (disch := omega) only [↓reduceIte, go_sem, Int.reduceToNat, Nat.reduceAdd, Nat.reduceLeDiff, Nat.reduceEqDiff, Nat.reduceSub, Nat.reduceMul, reduceCtorEq]
      refine callL C7 ?_
      simp (config := {maxSteps := 2000000, implicitDefEqProofs := false}) (disch := omega) only [↓reduceIte, go_sem, Int.reduceToNat, Nat.reduceAdd, Nat.reduceLeDiff, Nat.reduceEqDiff, Nat.reduceSub, Nat.reduceMul, reduceCtorEq]
      exact ⟨rfl, rfl⟩
    · have hmany : ¬ 9 < d.blocks.length ∧ ¬ 60 < sumC d.blocks := by simpa [manyP] using e
      have hbc : ∀ b ∈ d.blocks, b.code.length ≤ 1000 := fun b hb => by have := sumC_mem hb; omega
      have hmk := C23 d hd (by omega) hbc
      have hok := makeP_ok hbc
      have hnb : (makeP d).blocks.length ≤ 9 ∧ 1 ≤ (makeP d).blocks.length := by rw [makeP_len]; exact ⟨nBlk_le (by omega), nBlk_pos⟩
      generalize makeP d = f at hmk hok hnb
      have hl : f.blocks.length < 1000000 := by omega
      have hs := succF_ok hl
      have hsu := C8 f hl hok
      have hgn := C10 f hl hok
      obtain ⟨t, ov, bl, hT⟩ := treeC hs
      have hgP : isP (grP (succF f.blocks) (predF (succF f.blocks))) = true := rfl
      have hgr : ∀ m, ren m (grP (succF f.blocks) (predF (succF f.blocks))) = grP (succF f.blocks) (predF (succF f.blocks)) := fun m => by simp only [grP, ren]
      have hsl : (succF f.blocks).length ≤ 9 ∧ 1 ≤ (succF f.blocks).length := by rw [succF_len]; exact hnb
      generalize succF f.blocks = S at *
      have hlen : (encRows S).length = S.length := by simp [encRows]
      simp only [encFn] at hsu hgn hmk
      simp (config := {maxSteps := 2000000, implicitDefEqProofs := false}) (disch := omega) only [↓reduceIte, go_sem, Int.reduceToNat, Nat.reduceAdd, Nat.reduceLeDiff, Nat.reduceEqDiff, Nat.reduceSub, Nat.reduceMul, reduceCtorEq, encDr]
      refine callL hmk ?_
      simp (config := {maxSteps := 2000000, implicitDefEqProofs := false}) (disch := omega) only [↓reduceIte, go_sem, Int.reduceToNat, Nat.reduceAdd, Nat.reduceLeDiff, Nat.reduceEqDiff, Nat.reduceSub, Nat.reduceMul, reduceCtorEq]
      refine callL hgn ?_
      simp (config := {maxSteps := 2000000, implicitDefEqProofs := false}) (disch := omega) only [↓reduceIte, go_sem, Int.reduceToNat, Nat.reduceAdd, Nat.reduceLeDiff, Nat.reduceEqDiff, Nat.reduceSub, Nat.reduceMul, reduceCtorEq, hgP, hgr]
      refine callL hT.new ?_
      simp (config := {maxSteps := 2000000, implicitDefEqProofs := false}) (disch := omega) only [↓reduceIte, go_sem, Int.reduceToNat, Nat.reduceAdd, Nat.reduceLeDiff, Nat.reduceEqDiff, Nat.reduceSub, Nat.reduceMul, reduceCtorEq]
      refine callL hsu ?_
      simp (config := {maxSteps := 2000000, implicitDefEqProofs := false}) (disch := omega) only [↓reduceIte, go_sem, Int.reduceToNat, Nat.reduceAdd, Nat.reduceLeDiff, Nat.reduceEqDiff, Nat.reduceSub, Nat.reduceMul, reduceCtorEq]
      refine loopL (σ := Nat × List Nat) (fun p => ⟨[(1, .sl (tu.map fun n => [.int .u8 n])), (6, .rp t), (7, .sl (encRows S)), (8, .hs 8 p.2.length 0 p.2.length), (9, .int .i64 (p.1 : Int)), (10, .int .i64 (p.2.length : Int))], [(8, .arr p.2.length 1 (p.2.map encK))]⟩)
        (fun p => Been S p.1 p.2 ∧ p.2.length ≤ tu.length) (fun p => tu.length - p.2.length) (0, []) (by simp (config := {maxSteps := 2000000, implicitDefEqProofs := false}) (disch := omega) only [↓reduceIte, go_sem, Int.reduceToNat, Nat.reduceAdd, Nat.reduceLeDiff, Nat.reduceEqDiff, Nat.reduceSub, Nat.reduceMul, reduceCtorEq]; rfl) ⟨⟨by omega, .base (by omega) (by omega), fun x hx => .inl ((isD_zero (by omega)).1 hx)⟩, by simp⟩ ?_
      rintro ⟨b, been⟩ ⟨hbn, hbl⟩
      simp only at hbn hbl
      have hcp : ((been.length + 1 : Nat) : Int) * ((8 : Nat) : Int) ≤ 70368744177664 := by omega
      have hov := hT.over (b : Int)
      have hovl := hT.ovl (b : Int)
      have hovm := hT.ovm b
      have hovr := (hT.ovr b).2 hbn.2.1
      generalize ov (b : Int) = L at hov hovl hovm hovr
      have hrow : (encRows S)[b]? = some (encRow (S.getD b [])) := by
        unfold encRows
        rw [List.getElem?_map]
        simp [List.getD_eq_getElem?_getD, hbn.1]
      have hwf := hs.wf
      have hrl := hs.row b
      generalize hr : S.getD b [] = r at hrow hrl
      simp (config := {maxSteps := 2000000, implicitDefEqProofs := false}) (disch := omega) only [↓reduceIte, go_sem, Int.reduceToNat, Nat.reduceAdd, Nat.reduceLeDiff, Nat.reduceEqDiff, Nat.reduceSub, Nat.reduceMul, reduceCtorEq, hcp]
      refine callL hov ?_
      simp (config := {maxSteps := 2000000, implicitDefEqProofs := false}) (disch := omega) only [↓reduceIte, go_sem, Int.reduceToNat, Nat.reduceAdd, Nat.reduceLeDiff, Nat.reduceEqDiff, Nat.reduceSub, Nat.reduceMul, reduceCtorEq, hcp]
      refine loopL (σ := Nat) (fun i => ⟨[(1, .sl (tu.map fun n => [.int .u8 n])), (6, .rp t), (7, .sl (encRows S)), (8, .hs 8 (been.length + 1) 0 (been.length + 1)), (9, .int .i64 (b : Int)), (10, .int .i64 (been.length : Int)), (11, .sl (L.map encK)), (12, .int .i64 (i : Int))], [(8, .arr (been.length + 1) 1 ((been ++ [b]).map encK))]⟩) (fun i => i ≤ L.length) (fun i => L.length - i) 0 (by simp (config := {maxSteps := 2000000, implicitDefEqProofs := false}) (disch := omega) only [↓reduceIte, go_sem, Int.reduceToNat, Nat.reduceAdd, Nat.reduceLeDiff, Nat.reduceEqDiff, Nat.reduceSub, Nat.reduceMul, reduceCtorEq]; simp [encK]) (Nat.zero_le _) ?_
      intro i hi
      simp (config := {maxSteps := 2000000, implicitDefEqProofs := false}) (disch := omega) only [↓reduceIte, go_sem, Int.reduceToNat, Nat.reduceAdd, Nat.reduceLeDiff, Nat.reduceEqDiff, Nat.reduceSub, Nat.reduceMul, reduceCtorEq]
      refine ifD (fun c1 => ?_) (fun c1 => ?_)
      · have g1 : L[i]? = some (L.getD i 0) := getD0 (by omega)
        have hm := List.mem_of_getElem? g1
        have hin := mkIn (been ++ [b]) (L.getD i 0) (by simp; omega)
        have hmem : L.getD i 0 ∈ been ++ [b] := by
          rcases hbn.2.2 _ ((hovm _).1 hm) with e | e
          · exact List.mem_append_right _ (List.mem_singleton.2 e)
          · exact List.mem_append_left _ e
        rw [decide_eq_true hmem] at hin
        generalize L.getD i 0 = x at g1 hin
        have htk : List.take (been.length + 1) ((been ++ [b]).map encK) = (been ++ [b]).map encK := List.take_of_length_le (by simp)
        simp (config := {maxSteps := 2000000, implicitDefEqProofs := false}) (disch := omega) only [↓reduceIte, go_sem, Int.reduceToNat, Nat.reduceAdd, Nat.reduceLeDiff, Nat.reduceEqDiff, Nat.reduceSub, Nat.reduceMul, reduceCtorEq, g1, encK, htk]
        refine callL hin ?_
        simp (config := {maxSteps := 2000000, implicitDefEqProofs := false}) (disch := omega) only [↓reduceIte, go_sem, Int.reduceToNat, Nat.reduceAdd, Nat.reduceLeDiff, Nat.reduceEqDiff, Nat.reduceSub, Nat.reduceMul, reduceCtorEq, g1, encK, htk]
        exact ⟨i + 1, by simp [encK], by omega, by omega⟩
      · simp (config := {maxSteps := 2000000, implicitDefEqProofs := false}) (disch := omega) only [↓reduceIte, go_sem, Int.reduceToNat, Nat.reduceAdd, Nat.reduceLeDiff, Nat.reduceEqDiff, Nat.reduceSub, Nat.reduceMul, reduceCtorEq]
        refine ifE (fun c2 => ?_) (fun c2 => ?_)
        · simp (config := {maxSteps := 2000000, implicitDefEqProofs := false}) (disch := omega) only [↓reduceIte, go_sem, Int.reduceToNat, Nat.reduceAdd, Nat.reduceLeDiff, Nat.reduceEqDiff, Nat.reduceSub, Nat.reduceMul, reduceCtorEq]
          refine callL C7 ?_
          simp (config := {maxSteps := 2000000, implicitDefEqProofs := false}) (disch := omega) only [↓reduceIte, go_sem, Int.reduceToNat, Nat.reduceAdd, Nat.reduceLeDiff, Nat.reduceEqDiff, Nat.reduceSub, Nat.reduceMul, reduceCtorEq]
          exact ⟨rfl, rfl⟩
        · simp (config := {maxSteps := 2000000, implicitDefEqProofs := false}) (disch := omega) only [↓reduceIte, go_sem, Int.reduceToNat, Nat.reduceAdd, Nat.reduceLeDiff, Nat.reduceEqDiff, Nat.reduceSub, Nat.reduceMul, reduceCtorEq, hrow, encRow]
          refine ifE (fun c3 => ?_) (fun c3 => ?_)
          · simp (config := {maxSteps := 2000000, implicitDefEqProofs := false}) (disch := omega) only [↓reduceIte, go_sem, Int.reduceToNat, Nat.reduceAdd, Nat.reduceLeDiff, Nat.reduceEqDiff, Nat.reduceSub, Nat.reduceMul, reduceCtorEq]
            refine callL C7 ?_
            simp (config := {maxSteps := 2000000, implicitDefEqProofs := false}) (disch := omega) only [↓reduceIte, go_sem, Int.reduceToNat, Nat.reduceAdd, Nat.reduceLeDiff, Nat.reduceEqDiff, Nat.reduceSub, Nat.reduceMul, reduceCtorEq]
            exact ⟨rfl, rfl⟩
          · have htn : tu[been.length]? = some (tu.getD been.length 0) := by simp [List.getD_eq_getElem?_getD, show been.length < tu.length by omega]
            have ht1 := (htu _ (List.mem_of_getElem? htn)).2
            have ht0 := (htu _ (List.mem_of_getElem? htn)).1
            have htn2 : Option.map (fun n : Int => [AV.int .u8 n]) tu[been.length]? = some [.int .u8 (tu.getD been.length 0)] := by rw [htn]; rfl
            generalize tu.getD been.length 0 = tn at htn htn2 ht0 ht1
            have hm := tmod_nat (m := r.length) ht0
            have hri : r[tn.toNat % r.length]? = some (r.getD (tn.toNat % r.length) 0) := getD0 (Nat.mod_lt _ (by omega))
            have hmem : r.getD (tn.toNat % r.length) 0 ∈ S.getD b [] := by rw [hr]; exact List.mem_of_getElem? hri
            have hbs := hbn.step hwf hmem
            generalize r.getD (tn.toNat % r.length) 0 = b2 at hri hbs
            generalize tn.toNat % r.length = q at hm hri
            simp (config := {maxSteps := 2000000, implicitDefEqProofs := false}) (disch := omega) only [↓reduceIte, go_sem, Int.reduceToNat, Nat.reduceAdd, Nat.reduceLeDiff, Nat.reduceEqDiff, Nat.reduceSub, Nat.reduceMul, reduceCtorEq, hrow, encRow, htn, htn2, hm, hri, encK]
            refine accL (by kernel_rfl) ?_
            simp (config := {maxSteps := 2000000, implicitDefEqProofs := false}) (disch := omega) only [↓reduceIte, go_sem, Int.reduceToNat, Nat.reduceAdd, Nat.reduceLeDiff, Nat.reduceEqDiff, Nat.reduceSub, Nat.reduceMul, reduceCtorEq, hrow, encRow, htn, htn2, hm, hri, encK]
            exact ⟨(b2, been ++ [b]), by simp [encK], ⟨hbs, by simp; omega⟩, by simp; omega⟩
end Go.Proofs.Yticjemfgbfphdaa.X
