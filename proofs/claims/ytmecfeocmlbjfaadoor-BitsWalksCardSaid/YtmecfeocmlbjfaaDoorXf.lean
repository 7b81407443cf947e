/- Part of a proof: what functions of the program do. -/
import Derived.Test.YtmecfeocmlbjfaaDoorXe
namespace Go.Proofs.YtmecfeocmlbjfaaDoor.X
open Go Go.AM Go.Proofs
attribute [local go_sem ↓] w_skip w_lbl w_ops w_draw w_pre w_post w_alt w_seq w_cond w_block w_join w_loop w_exit w_ret w_scope w_rfunc l_nil l_cons th_n th_e th_r bk_n bk_r bk_e t_nil t_it t_call i_nil i_one i_grp s_nil s_cons c_call e_mv e_nil e_frz o_mov o_bin o_eq o_un o_conv o_len o_slen o_idx o_aix o_fad o_load o_store o_boxp o_boxo o_boxm o_alloc o_allocm o_alloca o_nilarr o_build o_bslp o_bslo o_slc o_sslc o_slc3 o_sidx o_mkfn o_mkmv o_vidx o_ext o_pick o_callf o_callb o_appd o_clear o_mxn o_field o_nilc o_make o_buildm o_boxg o_mkif o_tass o_eqs o_callo o_callx k_int k_str k_bool k_grb k_grt k_some k_none k_arr k_lens k_lenf k_lenh k_idxs k_idxf k_idxh k_ld k_loadp k_loadr k_loade k_storer k_storee k_oin k_ois k_slcs k_slcf k_slch k_slc3s k_slc3f k_slc3h k_app2 k_apps k_appf k_apph k_cals k_cald k_cali k_cnb k_cna k_esn k_esc k_efn k_efc k_esh b_add b_sub b_mul b_quo b_rem b_and b_or b_xor b_andNot b_eql b_neq b_lss b_leq b_gtr b_geq b_shl b_shr b_seq b_sne b_slt b_sad q_bool q_str q_nil q_nilf u_not u_neg u_xor f_ret f_nor v_r v_c v_g v_reg v_ob v_set v_put v_so v_sn v_pn v_pc g_nil d_nil p_nil m_mv m_fr z_nil z_cons z_an z_ac g_cons d_cons p_cons y_mov y_bin y_eq y_un y_conv y_len y_slen y_idx y_aix y_fad y_load y_store y_boxp y_boxo y_boxm y_alloc y_alloca y_allocm y_nilarr y_build y_bslp y_bslo y_slc y_sslc y_slc3 y_sidx y_mkfn y_ext y_pick y_callf y_callb y_appd y_clear y_mxn y_field y_nilc y_make y_buildm y_boxg y_mkif y_tass y_eqs y_callo y_mkmv y_callx y_vidx nb_if
attribute [local go_sem] nbd VL_mk VL2_mk If_t If_f If_not If_and If_or If_dt If_df If_et If_ef If_ne Ck_t Ck_h Opt_s ld_a ld_c lm_a lm_c renL ren keepR renA idxM invL getObs mapOb renOb allNone putAll fzR fzO fz fzL fzOb frzOk upFrom mapR resOne resA cellsOf oneA oneAL isP isPL okSt kRows kParts fillA setAt bor bor0 bor1 bor2 borC borI key0 key1 key2 keysA fillM cellsM cellM unif ptrA ifOk kPartsM getObsM allNoneM zipU scal0 scalar eqC evNil evNilF memK keyX hideM xbor scal1 scalX scalOb bndA mkMag showM lendV hideV hideR hideOb hideL hideO showL backO noneO mapA List.map_cons List.map_nil List.cons_append List.nil_append List.append_nil List.drop_zero List.drop_succ_cons List.drop_nil List.take_succ_cons List.take_zero List.take_nil List.length_cons List.length_nil List.length_map List.getElem?_map Option.map_some Option.map_none Int.toNat_natCast Int.toNat_zero Int.toNat_one Int.natCast_nonneg List.flatMap_cons List.flatMap_nil List.all_cons List.all_nil List.any_cons List.any_nil Bool.or_false Bool.false_or Bool.or_true Bool.true_or Bool.and_true Bool.true_and Bool.and_false Bool.false_and Bool.not_true Bool.not_false beq_self_eq_true nb_self all_nil List.forall_mem_cons tk_map tk_app bs_self bs_dec bq_t bq_f Bool.not_not decide_true decide_false Bool.not_not and_self and_true true_and eq_self List.reverse_cons List.reverse_nil List.getElem?_cons_zero List.getElem?_cons_succ cond_true cond_false List.set_cons_zero List.set_cons_succ Nat.zero_add Nat.add_zero if_true if_false ite_true ite_false implies_true wrap64 wrap8
open Go.Bits
set_option linter.unusedVariables false
set_option linter.unusedSimpArgs false
set_option maxRecDepth 10000
set_option maxHeartbeats 4000000
structure Deed where
  k : Int
  n : Int
  l : List Int
def encD (d : Deed) : List AV := [.int .u8 d.k, .int .i64 d.n, .sl (d.l.map encZ)]
def onesTo (bs : List Bool) (s : Nat) : List Int := ((List.range s).filter fun i => bs.getD i false).map fun (i : Nat) => (i : Int)
theorem onesTo_all (bs : List Bool) : onesTo bs bs.length = onesI bs := rfl
theorem onesTo_succ {bs : List Bool} {s : Nat} : onesTo bs (s + 1) = if bs.getD s false = true then onesTo bs s ++ [(s : Int)] else onesTo bs s := by
  unfold onesTo
  rw [List.range_succ, List.filter_append, List.map_append]
  cases h : bs.getD s false with
  | true =>
    rw [List.filter_cons, if_pos h, if_pos rfl]
    rfl
  | false =>
    rw [List.filter_cons, if_neg (by rw [h]; simp), if_neg (by simp)]
    simp
theorem onesTo_len {bs : List Bool} {s : Nat} : (onesTo bs s).length ≤ s := by
  unfold onesTo
  rw [List.length_map]
  have := List.length_filter_le (fun i => bs.getD i false) (List.range s)
  rwa [List.length_range] at this
theorem C14 (bs : List Bool) (hl : bs.length < 1000000000) : Ctr Tryd.prog 14 [refS bs] [] (ret [.sl ((onesI bs).map encZ)]) := by
  unfold refS
  apply ctr_b A14_ok rfl (Nat.le_of_ble_eq_true rfl)
  unfold A14
  simp only [initL, Nat.reduceAdd]
  simp (config := {maxSteps := 2000000, implicitDefEqProofs := false}) (disch := omega) only [↓reduceIte, go_sem, Int.reduceToNat, Nat.reduceAdd, Nat.reduceLeDiff, Nat.reduceEqDiff, Nat.reduceSub, Nat.reduceMul, reduceCtorEq]
  refine loopL (σ := Nat) (fun s => ⟨[(1, .rp [.sl (bs.map encB)]), (3, .hs 3 (onesTo bs s).length 0 (onesTo bs s).length), (4, .int .i64 (s : Nat))], [(3, .arr (onesTo bs s).length 1 ((onesTo bs s).map encZ))]⟩) (fun s => s ≤ bs.length) (fun s => bs.length - s) 0 (by simp (config := {maxSteps := 2000000, implicitDefEqProofs := false}) (disch := omega) only [↓reduceIte, go_sem, Int.reduceToNat, Nat.reduceAdd, Nat.reduceLeDiff, Nat.reduceEqDiff, Nat.reduceSub, Nat.reduceMul, reduceCtorEq]; rfl) (Nat.zero_le _) ?_
  intro s hs
  simp (config := {maxSteps := 2000000, implicitDefEqProofs := false}) (disch := omega) only [↓reduceIte, go_sem, Int.reduceToNat, Nat.reduceAdd, Nat.reduceLeDiff, Nat.reduceEqDiff, Nat.reduceSub, Nat.reduceMul, reduceCtorEq]
  refine ifD (fun c => ?_) (fun c => ?_)
  · have hlt : s < bs.length := by omega
    have g1 := encB_get (getD_some hlt)
    have g4 : IntKind.i64.wrap ((s : Int) + 1) = ((s + 1 : Nat) : Int) := by rw [← wrapI (m := s + 1) (by omega)]; congr 1
    have g5 := onesTo_succ (bs := bs) (s := s)
    have g6 := onesTo_len (bs := bs) (s := s)
    cases hb : bs.getD s false with
    | true =>
      rw [hb, if_pos rfl] at g5
      rw [hb] at g1
      simp (config := {maxSteps := 2000000, implicitDefEqProofs := false}) (disch := omega) only [↓reduceIte, go_sem, Int.reduceToNat, Nat.reduceAdd, Nat.reduceLeDiff, Nat.reduceEqDiff, Nat.reduceSub, Nat.reduceMul, reduceCtorEq, g1, g4]
      refine ⟨s + 1, ?_, by omega, by omega⟩
      rw [g5]
      simp [encZ]
    | false =>
      rw [hb, if_neg (by simp)] at g5
      rw [hb] at g1
      simp (config := {maxSteps := 2000000, implicitDefEqProofs := false}) (disch := omega) only [↓reduceIte, go_sem, Int.reduceToNat, Nat.reduceAdd, Nat.reduceLeDiff, Nat.reduceEqDiff, Nat.reduceSub, Nat.reduceMul, reduceCtorEq, g1, g4]
      refine ⟨s + 1, ?_, by omega, by omega⟩
      rw [g5]
  · have hs : s = bs.length := by omega
    subst hs
    have e1 : ((onesTo bs bs.length).map encZ).take (onesTo bs bs.length).length = (onesTo bs bs.length).map encZ := List.take_of_length_le (by simp)
    simp (config := {maxSteps := 2000000, implicitDefEqProofs := false}) (disch := omega) only [↓reduceIte, go_sem, Int.reduceToNat, Nat.reduceAdd, Nat.reduceLeDiff, Nat.reduceEqDiff, Nat.reduceSub, Nat.reduceMul, reduceCtorEq, e1]
    rw [onesTo_all]
    exact ⟨rfl, rfl⟩
theorem C9 (u w : List Int) (hl : u.length < 1000000000) (hw : w.length < 1000000000) : Ctr Tryd.prog 9 [.sl (u.map encZ), .sl (w.map encZ)] [] (ret [.bool (u == w)]) := by
  apply ctr_b A9_ok rfl (Nat.le_of_ble_eq_true rfl)
  unfold A9
  simp only [initL, Nat.reduceAdd]
  simp (config := {maxSteps := 2000000, implicitDefEqProofs := false}) (disch := omega) only [↓reduceIte, go_sem, Int.reduceToNat, Nat.reduceAdd, Nat.reduceLeDiff, Nat.reduceEqDiff, Nat.reduceSub, Nat.reduceMul, reduceCtorEq]
  refine ifE (fun e => ?_) (fun e => ?_)
  · have he : u.length = w.length := by omega
    simp (config := {maxSteps := 2000000, implicitDefEqProofs := false}) (disch := omega) only [↓reduceIte, go_sem, Int.reduceToNat, Nat.reduceAdd, Nat.reduceLeDiff, Nat.reduceEqDiff, Nat.reduceSub, Nat.reduceMul, reduceCtorEq]
    refine loopL (σ := Nat) (fun s => ⟨[(0, .sl (u.map encZ)), (1, .sl (w.map encZ)), (5, .int .i64 (s : Nat))], []⟩) (fun s => s ≤ u.length ∧ ∀ j, j < s → u[j]! = w[j]!) (fun s => u.length - s) 0 (by simp (config := {maxSteps := 2000000, implicitDefEqProofs := false}) (disch := omega) only [↓reduceIte, go_sem, Int.reduceToNat, Nat.reduceAdd, Nat.reduceLeDiff, Nat.reduceEqDiff, Nat.reduceSub, Nat.reduceMul, reduceCtorEq]; rfl) ⟨by omega, fun j hj => by omega⟩ ?_
    rintro s ⟨h1, h2⟩
    simp (config := {maxSteps := 2000000, implicitDefEqProofs := false}) (disch := omega) only [↓reduceIte, go_sem, Int.reduceToNat, Nat.reduceAdd, Nat.reduceLeDiff, Nat.reduceEqDiff, Nat.reduceSub, Nat.reduceMul, reduceCtorEq]
    refine ifD (fun c => ?_) (fun c => ?_)
    · have hs : s < u.length := by omega
      have hg := encZ_get' hs
      have hg2 := encZ_get' (show s < w.length by omega)
      simp (config := {maxSteps := 2000000, implicitDefEqProofs := false}) (disch := omega) only [↓reduceIte, go_sem, Int.reduceToNat, Nat.reduceAdd, Nat.reduceLeDiff, Nat.reduceEqDiff, Nat.reduceSub, Nat.reduceMul, reduceCtorEq, hg, hg2]
      refine accL (by kernel_rfl) ?_
      simp (config := {maxSteps := 2000000, implicitDefEqProofs := false}) (disch := omega) only [↓reduceIte, go_sem, Int.reduceToNat, Nat.reduceAdd, Nat.reduceLeDiff, Nat.reduceEqDiff, Nat.reduceSub, Nat.reduceMul, reduceCtorEq]
      refine ifE (fun e => ?_) (fun e => ?_)
      · simp (config := {maxSteps := 2000000, implicitDefEqProofs := false}) (disch := omega) only [↓reduceIte, go_sem, Int.reduceToNat, Nat.reduceAdd, Nat.reduceLeDiff, Nat.reduceEqDiff, Nat.reduceSub, Nat.reduceMul, reduceCtorEq]
        refine ⟨s + 1, by simp, ⟨by omega, fun j hj => ?_⟩, by omega⟩
        by_cases hjs : j = s
        · subst hjs; exact e
        · exact h2 j (by omega)
      · simp (config := {maxSteps := 2000000, implicitDefEqProofs := false}) (disch := omega) only [↓reduceIte, go_sem, Int.reduceToNat, Nat.reduceAdd, Nat.reduceLeDiff, Nat.reduceEqDiff, Nat.reduceSub, Nat.reduceMul, reduceCtorEq]
        exact ⟨by rw [ints_ne e], rfl⟩
    · simp (config := {maxSteps := 2000000, implicitDefEqProofs := false}) (disch := omega) only [↓reduceIte, go_sem, Int.reduceToNat, Nat.reduceAdd, Nat.reduceLeDiff, Nat.reduceEqDiff, Nat.reduceSub, Nat.reduceMul, reduceCtorEq]
      refine ⟨?_, rfl⟩
      have : u = w := List.ext_getElem he fun j h3 h4 => by
        have := h2 j (by omega)
        simpa [h3, h4] using this
      subst this
      simp
  · simp (config := {maxSteps := 2000000, implicitDefEqProofs := false}) (disch := omega) only [↓reduceIte, go_sem, Int.reduceToNat, Nat.reduceAdd, Nat.reduceLeDiff, Nat.reduceEqDiff, Nat.reduceSub, Nat.reduceMul, reduceCtorEq]
    refine ⟨?_, rfl⟩
    have : (u == w) = false := by
      rw [beq_eq_false_iff_ne]
      rintro rfl
      exact e rfl
    rw [this]
def fewD (d : Deed) : Bool := !((decide (d.k > 1) && decide (d.n > 300)) || decide (d.l.length > 40))
def few (n : Int) (l : List Deed) : Bool := decide (n ≤ 300) && decide (l.length ≤ 40) && l.all fewD
theorem encD_get {l : List Deed} {s : Nat} (h : s < l.length) : (l.map encD)[s]? = some (encD l[s]) := by
  rw [List.getElem?_map, List.getElem?_eq_getElem h]; rfl
theorem C10 (n : Int) (l : List Deed) : Ctr Tryd.prog 10 [.int .i64 n, .sl (l.map encD)] [] (ret [.bool (few n l)]) := by
  apply ctr_b A10_ok rfl (Nat.le_of_ble_eq_true rfl)
  unfold A10
  simp only [initL, Nat.reduceAdd]
  simp (config := {maxSteps := 2000000, implicitDefEqProofs := false}) (disch := omega) only [↓reduceIte, go_sem, Int.reduceToNat, Nat.reduceAdd, Nat.reduceLeDiff, Nat.reduceEqDiff, Nat.reduceSub, Nat.reduceMul, reduceCtorEq]
  by_cases h1 : n > 300
  · have e : few n l = false := by simp [few]; omega
    simp (config := {maxSteps := 2000000, implicitDefEqProofs := false}) (disch := omega) only [↓reduceIte, go_sem, Int.reduceToNat, Nat.reduceAdd, Nat.reduceLeDiff, Nat.reduceEqDiff, Nat.reduceSub, Nat.reduceMul, reduceCtorEq]
    rw [e]
    exact ⟨rfl, rfl⟩
  · by_cases h2 : l.length > 40
    · have e : few n l = false := by simp [few]; omega
      simp (config := {maxSteps := 2000000, implicitDefEqProofs := false}) (disch := omega) only [↓reduceIte, go_sem, Int.reduceToNat, Nat.reduceAdd, Nat.reduceLeDiff, Nat.reduceEqDiff, Nat.reduceSub, Nat.reduceMul, reduceCtorEq]
      rw [e]
      exact ⟨rfl, rfl⟩
    · simp (config := {maxSteps := 2000000, implicitDefEqProofs := false}) (disch := omega) only [↓reduceIte, go_sem, Int.reduceToNat, Nat.reduceAdd, Nat.reduceLeDiff, Nat.reduceEqDiff, Nat.reduceSub, Nat.reduceMul, reduceCtorEq]
      refine loopL (σ := Nat) (fun s => ⟨[(1, .sl (l.map encD)), (5, .int .i64 (s : Nat))], []⟩) (fun s => s ≤ l.length ∧ ∀ j, j < s → ∀ d, l[j]? = some d → fewD d = true) (fun s => l.length - s) 0 (by simp (config := {maxSteps := 2000000, implicitDefEqProofs := false}) (disch := omega) only [↓reduceIte, go_sem, Int.reduceToNat, Nat.reduceAdd, Nat.reduceLeDiff, Nat.reduceEqDiff, Nat.reduceSub, Nat.reduceMul, reduceCtorEq]; rfl) ⟨Nat.zero_le _, fun j hj => by omega⟩ ?_
      rintro s ⟨hs, hj⟩
      simp (config := {maxSteps := 2000000, implicitDefEqProofs := false}) (disch := omega) only [↓reduceIte, go_sem, Int.reduceToNat, Nat.reduceAdd, Nat.reduceLeDiff, Nat.reduceEqDiff, Nat.reduceSub, Nat.reduceMul, reduceCtorEq]
      refine ifD (fun c => ?_) (fun c => ?_)
      · have hlt : s < l.length := by omega
        have g1 := encD_get hlt
        have g4 : IntKind.i64.wrap ((s : Int) + 1) = ((s + 1 : Nat) : Int) := by rw [← wrapI (m := s + 1) (by omega)]; congr 1
        have hd := List.getElem?_eq_getElem hlt
        generalize l[s] = d at *
        have nx : fewD d = true → ∀ j, j < s + 1 → ∀ d', l[j]? = some d' → fewD d' = true := fun hf j hj2 d' hd' => by
          by_cases e : j = s
          · subst e; rw [hd] at hd'; cases hd'; exact hf
          · exact hj j (by omega) d' hd'
        have bad : fewD d = false → few n l = false := fun hf => by
          have : l.all fewD = false := by
            rw [List.all_eq_false]
            exact ⟨d, List.mem_of_getElem? hd, by simp [hf]⟩
          simp [few, this]
        simp (config := {maxSteps := 2000000, implicitDefEqProofs := false}) (disch := omega) only [↓reduceIte, go_sem, Int.reduceToNat, Nat.reduceAdd, Nat.reduceLeDiff, Nat.reduceEqDiff, Nat.reduceSub, Nat.reduceMul, reduceCtorEq, g1, encD]
        by_cases h3 : d.k > 1
        · by_cases h4 : d.n > 300
          · simp (config := {maxSteps := 2000000, implicitDefEqProofs := false}) (disch := omega) only [↓reduceIte, go_sem, Int.reduceToNat, Nat.reduceAdd, Nat.reduceLeDiff, Nat.reduceEqDiff, Nat.reduceSub, Nat.reduceMul, reduceCtorEq, g1, encD]
            rw [bad (by simp [fewD, h3, h4])]
            exact ⟨rfl, rfl⟩
          · by_cases h5 : d.l.length > 40
            · simp (config := {maxSteps := 2000000, implicitDefEqProofs := false}) (disch := omega) only [↓reduceIte, go_sem, Int.reduceToNat, Nat.reduceAdd, Nat.reduceLeDiff, Nat.reduceEqDiff, Nat.reduceSub, Nat.reduceMul, reduceCtorEq, g1, encD]
              rw [bad (by simp [fewD, h5])]
              exact ⟨rfl, rfl⟩
            · simp (config := {maxSteps := 2000000, implicitDefEqProofs := false}) (disch := omega) only [↓reduceIte, go_sem, Int.reduceToNat, Nat.reduceAdd, Nat.reduceLeDiff, Nat.reduceEqDiff, Nat.reduceSub, Nat.reduceMul, reduceCtorEq, g1, encD, g4]
              exact ⟨s + 1, rfl, ⟨by omega, nx (by simp [fewD]; omega)⟩, by omega⟩
        · by_cases h5 : d.l.length > 40
          · simp (config := {maxSteps := 2000000, implicitDefEqProofs := false}) (disch := omega) only [↓reduceIte, go_sem, Int.reduceToNat, Nat.reduceAdd, Nat.reduceLeDiff, Nat.reduceEqDiff, Nat.reduceSub, Nat.reduceMul, reduceCtorEq, g1, encD]
            rw [bad (by simp [fewD, h5])]
            exact ⟨rfl, rfl⟩
          · simp (config := {maxSteps := 2000000, implicitDefEqProofs := false}) (disch := omega) only [↓reduceIte, go_sem, Int.reduceToNat, Nat.reduceAdd, Nat.reduceLeDiff, Nat.reduceEqDiff, Nat.reduceSub, Nat.reduceMul, reduceCtorEq, g1, encD, g4]
            exact ⟨s + 1, rfl, ⟨by omega, nx (by simp [fewD]; omega)⟩, by omega⟩
      · simp (config := {maxSteps := 2000000, implicitDefEqProofs := false}) (disch := omega) only [↓reduceIte, go_sem, Int.reduceToNat, Nat.reduceAdd, Nat.reduceLeDiff, Nat.reduceEqDiff, Nat.reduceSub, Nat.reduceMul, reduceCtorEq]
        have : few n l = true := by
          have : l.all fewD = true := by
            rw [List.all_eq_true]
            intro d hd
            obtain ⟨j, hj2, e⟩ := List.getElem_of_mem hd
            exact hj j (by omega) d (by rw [← e]; exact List.getElem?_eq_getElem hj2)
          simp [few, this]; omega
        rw [this]
        exact ⟨rfl, rfl⟩
end Go.Proofs.YtmecfeocmlbjfaaDoor.X
namespace Go.Proofs.YtmecfeocmlbjfaaDoor.X
open Go Go.AM Go.Proofs
attribute [local go_sem ↓] w_skip w_lbl w_ops w_draw w_pre w_post w_alt w_seq w_cond w_block w_join w_loop w_exit w_ret w_scope w_rfunc l_nil l_cons th_n th_e th_r bk_n bk_r bk_e t_nil t_it t_call i_nil i_one i_grp s_nil s_cons c_call e_mv e_nil e_frz o_mov o_bin o_eq o_un o_conv o_len o_slen o_idx o_aix o_fad o_load o_store o_boxp o_boxo o_boxm o_alloc o_allocm o_alloca o_nilarr o_build o_bslp o_bslo o_slc o_sslc o_slc3 o_sidx o_mkfn o_mkmv o_vidx o_ext o_pick o_callf o_callb o_appd o_clear o_mxn o_field o_nilc o_make o_buildm o_boxg o_mkif o_tass o_eqs o_callo o_callx k_int k_str k_bool k_grb k_grt k_some k_none k_arr k_lens k_lenf k_lenh k_idxs k_idxf k_idxh k_ld k_loadp k_loadr k_loade k_storer k_storee k_oin k_ois k_slcs k_slcf k_slch k_slc3s k_slc3f k_slc3h k_app2 k_apps k_appf k_apph k_cals k_cald k_cali k_cnb k_cna k_esn k_esc k_efn k_efc k_esh b_add b_sub b_mul b_quo b_rem b_and b_or b_xor b_andNot b_eql b_neq b_lss b_leq b_gtr b_geq b_shl b_shr b_seq b_sne b_slt b_sad q_bool q_str q_nil q_nilf u_not u_neg u_xor f_ret f_nor v_r v_c v_g v_reg v_ob v_set v_put v_so v_sn v_pn v_pc g_nil d_nil p_nil m_mv m_fr z_nil z_cons z_an z_ac g_cons d_cons p_cons y_mov y_bin y_eq y_un y_conv y_len y_slen y_idx y_aix y_fad y_load y_store y_boxp y_boxo y_boxm y_alloc y_alloca y_allocm y_nilarr y_build y_bslp y_bslo y_slc y_sslc y_slc3 y_sidx y_mkfn y_ext y_pick y_callf y_callb y_appd y_clear y_mxn y_field y_nilc y_make y_buildm y_boxg y_mkif y_tass y_eqs y_callo y_mkmv y_callx y_vidx nb_if
attribute [local go_sem] nbd VL_mk VL2_mk If_t If_f If_not If_and If_or If_dt If_df If_et If_ef If_ne Ck_t Ck_h Opt_s ld_a ld_c lm_a lm_c renL ren keepR renA idxM invL getObs mapOb renOb allNone putAll fzR fzO fz fzL fzOb frzOk upFrom mapR resOne resA cellsOf oneA oneAL isP isPL okSt kRows kParts fillA setAt bor bor0 bor1 bor2 borC borI key0 key1 key2 keysA fillM cellsM cellM unif ptrA ifOk kPartsM getObsM allNoneM zipU scal0 scalar eqC evNil evNilF memK keyX hideM xbor scal1 scalX scalOb bndA mkMag showM lendV hideV hideR hideOb hideL hideO showL backO noneO mapA List.map_cons List.map_nil List.cons_append List.nil_append List.append_nil List.drop_zero List.drop_succ_cons List.drop_nil List.take_succ_cons List.take_zero List.take_nil List.length_cons List.length_nil List.length_map List.getElem?_map Option.map_some Option.map_none Int.toNat_natCast Int.toNat_zero Int.toNat_one Int.natCast_nonneg List.flatMap_cons List.flatMap_nil List.all_cons List.all_nil List.any_cons List.any_nil Bool.or_false Bool.false_or Bool.or_true Bool.true_or Bool.and_true Bool.true_and Bool.and_false Bool.false_and Bool.not_true Bool.not_false beq_self_eq_true nb_self all_nil List.forall_mem_cons tk_map tk_app bs_self bs_dec bq_t bq_f Bool.not_not decide_true decide_false Bool.not_not and_self and_true true_and eq_self List.reverse_cons List.reverse_nil List.getElem?_cons_zero List.getElem?_cons_succ cond_true cond_false List.set_cons_zero List.set_cons_succ Nat.zero_add Nat.add_zero if_true if_false ite_true ite_false implies_true wrap64 wrap8
open Go.Bits
set_option linter.unusedVariables false
set_option linter.unusedSimpArgs false
set_option maxRecDepth 10000
set_option maxHeartbeats 4000000
theorem withS_true (bs : List Bool) (i : Int) : withS bs i true = addS bs i := rfl
theorem withS_false (bs : List Bool) (i : Int) : withS bs i false = dropS bs i := rfl
theorem hasB_of {bs : List Bool} {i : Int} (h : inB bs i = true) : hasB bs i = bs.getD i.toNat false := by
  unfold inB at h
  have := (of_decide_eq_true h).1
  simp [hasB, this]
theorem withR_true (bs : List Bool) (i : Int) : withR bs i true = addR bs i := by
  unfold withR addR
  cases h : inB bs i with
  | false => rfl
  | true => rw [hasB_of h]; cases bs.getD i.toNat false <;> rfl
theorem withR_false (bs : List Bool) (i : Int) : withR bs i false = hasB bs i := by
  unfold withR
  cases h : inB bs i with
  | false =>
    cases h2 : hasB bs i with
    | false => rfl
    | true => rw [hasB_in h2] at h; cases h
  | true => rw [hasB_of h]; cases bs.getD i.toNat false <;> rfl
theorem C28 (d : Deed) (hn : d.n < 1000000000) (hl : d.l.length < 1000000000) : Ctr Tryd.prog 28 [.agg (encD d)] [] (retO [.ref 0 0, refS (ofS d.n.toNat d.l)] [.box [.int .i64 (d.n.toNat : Int), .hs 1 0 0 (nw d.n.toNat)], .arr 0 1 (encWs (ofS d.n.toNat d.l))]) := by
  unfold refS encD
  apply ctr_b A28_ok rfl (Nat.le_of_ble_eq_true rfl)
  unfold A28
  simp only [initL, Nat.reduceAdd]
  simp (config := {maxSteps := 2000000, implicitDefEqProofs := false}) (disch := omega) only [↓reduceIte, go_sem, Int.reduceToNat, Nat.reduceAdd, Nat.reduceLeDiff, Nat.reduceEqDiff, Nat.reduceSub, Nat.reduceMul, reduceCtorEq]
  refine callD (C12 d.n hn) ?_
  have tk0 : ((noneB d.n.toNat).map encB).take d.n.toNat = (noneB d.n.toNat).map encB := List.take_of_length_le (by rw [List.length_map, noneB_len]; omega)
  simp (config := {maxSteps := 2000000, implicitDefEqProofs := false}) (disch := omega) only [↓reduceIte, go_sem, Int.reduceToNat, Nat.reduceAdd, Nat.reduceLeDiff, Nat.reduceEqDiff, Nat.reduceSub, Nat.reduceMul, reduceCtorEq, tk0]
  refine loopL (σ := Nat) (fun s => ⟨[(1, .rp [.int .u8 d.k, .int .i64 d.n, .sl (d.l.map encZ)]), (3, .ref 3 0), (4, .ref 4 0), (5, .int .i64 (s : Nat))], [(3, .pbox [.sl []]), (4, .box [.sl ((ofS d.n.toNat (d.l.take s)).map encB)])]⟩) (fun s => s ≤ d.l.length) (fun s => d.l.length - s) 0 (by simp (config := {maxSteps := 2000000, implicitDefEqProofs := false}) (disch := omega) only [↓reduceIte, go_sem, Int.reduceToNat, Nat.reduceAdd, Nat.reduceLeDiff, Nat.reduceEqDiff, Nat.reduceSub, Nat.reduceMul, reduceCtorEq]; rfl) (Nat.zero_le _) ?_
  intro s hs
  simp (config := {maxSteps := 2000000, implicitDefEqProofs := false}) (disch := omega) only [↓reduceIte, go_sem, Int.reduceToNat, Nat.reduceAdd, Nat.reduceLeDiff, Nat.reduceEqDiff, Nat.reduceSub, Nat.reduceMul, reduceCtorEq]
  refine ifD (fun c => ?_) (fun c => ?_)
  · have hlt : s < d.l.length := by omega
    have hx := List.getElem?_eq_getElem hlt
    have g4 : IntKind.i64.wrap ((s : Int) + 1) = ((s + 1 : Nat) : Int) := by rw [← wrapI (m := s + 1) (by omega)]; congr 1
    generalize d.l[s] = z at *
    have g1 := encZ_get hx
    have g5 := ofS_succ (n := d.n.toNat) hx
    have hW := C26 (ofS d.n.toNat (d.l.take s)) z true (by rw [ofS_len]; omega)
    unfold refS at hW
    simp (config := {maxSteps := 2000000, implicitDefEqProofs := false}) (disch := omega) only [↓reduceIte, go_sem, Int.reduceToNat, Nat.reduceAdd, Nat.reduceLeDiff, Nat.reduceEqDiff, Nat.reduceSub, Nat.reduceMul, reduceCtorEq, g1]
    refine callL hW ?_
    simp (config := {maxSteps := 2000000, implicitDefEqProofs := false}) (disch := omega) only [↓reduceIte, go_sem, Int.reduceToNat, Nat.reduceAdd, Nat.reduceLeDiff, Nat.reduceEqDiff, Nat.reduceSub, Nat.reduceMul, reduceCtorEq]
    refine accL (by kernel_rfl) ?_
    simp (config := {maxSteps := 2000000, implicitDefEqProofs := false}) (disch := omega) only [↓reduceIte, go_sem, Int.reduceToNat, Nat.reduceAdd, Nat.reduceLeDiff, Nat.reduceEqDiff, Nat.reduceSub, Nat.reduceMul, reduceCtorEq, g4]
    refine ⟨s + 1, ?_, by omega, by omega⟩
    rw [withS_true, g5]
  · have hs : s = d.l.length := by omega
    subst hs
    simp (config := {maxSteps := 2000000, implicitDefEqProofs := false}) (disch := omega) only [↓reduceIte, go_sem, Int.reduceToNat, Nat.reduceAdd, Nat.reduceLeDiff, Nat.reduceEqDiff, Nat.reduceSub, Nat.reduceMul, reduceCtorEq]
    refine callD (C6 d.n d.l hn hl) ?_
    simp (config := {maxSteps := 2000000, implicitDefEqProofs := false}) (disch := omega) only [↓reduceIte, go_sem, Int.reduceToNat, Nat.reduceAdd, Nat.reduceLeDiff, Nat.reduceEqDiff, Nat.reduceSub, Nat.reduceMul, reduceCtorEq]
    refine accL (by kernel_rfl) ?_
    simp (config := {maxSteps := 2000000, implicitDefEqProofs := false}) (disch := omega) only [↓reduceIte, go_sem, Int.reduceToNat, Nat.reduceAdd, Nat.reduceLeDiff, Nat.reduceEqDiff, Nat.reduceSub, Nat.reduceMul, reduceCtorEq]
    rw [List.take_length]
    exact ⟨rfl, rfl⟩
def deedS (bs : List Bool) (d : Deed) : List Bool :=
  if d.k = 0 then addS bs d.n else if d.k = 1 then dropS bs d.n else if d.k = 2 then two (hows 1) bs (ofS d.n.toNat d.l) else if d.k = 3 then two (hows 2) bs (ofS d.n.toNat d.l) else if d.k = 4 then two (hows 3) bs (ofS d.n.toNat d.l) else bs
theorem deedS_len (bs : List Bool) (d : Deed) : (deedS bs d).length = bs.length := by
  unfold deedS
  split
  · exact addS_len _ _
  · split
    · exact dropS_len _ _
    · split
      · exact two_len _ _ _
      · split
        · exact two_len _ _ _
        · split
          · exact two_len _ _ _
          · rfl
theorem C13 {n : Nat} {bs : List Bool} (h : bs.length = n) (hn : n < 1000000000) (d : Deed) (hk : 0 ≤ d.k) (hf : fewD d = true) :
    Ctr Tryd.prog 13 [.ref 0 0, refS bs, .agg (encD d)] [.box [.int .i64 (n : Int), .hs 1 0 0 (nw n)], .arr 0 1 (encWs bs)] (retO [refS (deedS bs d), .bool true] [.box [.int .i64 (n : Int), .hs 1 0 0 (nw n)], .arr 0 1 (encWs (deedS bs d))]) := by
  have hl : d.l.length ≤ 40 := by
    unfold fewD at hf
    simp only [Bool.not_eq_true', Bool.or_eq_false_iff, decide_eq_false_iff_not] at hf
    omega
  have hb2 : ∀ (i : Int) (b : Bool), Ctr Tryd.prog 26 [.agg [.sl (bs.map encB)], .int .i64 i, .bool b] [] (ret [.agg [.sl ((withS bs i b).map encB)], .bool (withR bs i b)]) := fun i b => C26 bs i b (by omega)
  have hD := fun hn' : d.n < 1000000000 => C28 d hn' (by omega)
  have hT := fun (how : Nat) (hh : how = 1 ∨ how = 2 ∨ how = 3) (hn' : d.n < 1000000000) => C29 how hh bs (ofS d.n.toNat d.l) (by omega) (by rw [ofS_len]; omega)
  have hP : (ofS d.n.toNat d.l).length = d.n.toNat := ofS_len _ _
  have tkP : (encWs (ofS d.n.toNat d.l)).take (nw d.n.toNat) = encWs (ofS d.n.toNat d.l) := by
    have := encWs_take (ofS d.n.toNat d.l)
    rwa [hP] at this
  unfold refS encD at *
  apply ctr_b A13_ok rfl (Nat.le_of_ble_eq_true rfl)
  unfold A13
  simp only [initL, Nat.reduceAdd]
  simp (config := {maxSteps := 2000000, implicitDefEqProofs := false}) (disch := omega) only [↓reduceIte, go_sem, Int.reduceToNat, Nat.reduceAdd, Nat.reduceLeDiff, Nat.reduceEqDiff, Nat.reduceSub, Nat.reduceMul, reduceCtorEq]
  by_cases k0 : d.k = 0
  · have e1 : deedS bs d = addS bs d.n := by simp [deedS, k0]
    simp (config := {maxSteps := 2000000, implicitDefEqProofs := false}) (disch := omega) only [↓reduceIte, go_sem, Int.reduceToNat, Nat.reduceAdd, Nat.reduceLeDiff, Nat.reduceEqDiff, Nat.reduceSub, Nat.reduceMul, reduceCtorEq]
    refine callL (hb2 d.n true) ?_
    simp (config := {maxSteps := 2000000, implicitDefEqProofs := false}) (disch := omega) only [↓reduceIte, go_sem, Int.reduceToNat, Nat.reduceAdd, Nat.reduceLeDiff, Nat.reduceEqDiff, Nat.reduceSub, Nat.reduceMul, reduceCtorEq]
    refine callD (Add' h d.n (by omega)) ?_
    simp (config := {maxSteps := 2000000, implicitDefEqProofs := false}) (disch := omega) only [↓reduceIte, go_sem, Int.reduceToNat, Nat.reduceAdd, Nat.reduceLeDiff, Nat.reduceEqDiff, Nat.reduceSub, Nat.reduceMul, reduceCtorEq]
    refine accL (by kernel_rfl) ?_
    simp (config := {maxSteps := 2000000, implicitDefEqProofs := false}) (disch := omega) only [↓reduceIte, go_sem, Int.reduceToNat, Nat.reduceAdd, Nat.reduceLeDiff, Nat.reduceEqDiff, Nat.reduceSub, Nat.reduceMul, reduceCtorEq]
    rw [e1, withS_true, withR_true]
    simp [retO]
  · by_cases k1 : d.k = 1
    · have e1 : deedS bs d = dropS bs d.n := by simp [deedS, k1]
      simp (config := {maxSteps := 2000000, implicitDefEqProofs := false}) (disch := omega) only [↓reduceIte, go_sem, Int.reduceToNat, Nat.reduceAdd, Nat.reduceLeDiff, Nat.reduceEqDiff, Nat.reduceSub, Nat.reduceMul, reduceCtorEq]
      refine callL (hb2 d.n false) ?_
      simp (config := {maxSteps := 2000000, implicitDefEqProofs := false}) (disch := omega) only [↓reduceIte, go_sem, Int.reduceToNat, Nat.reduceAdd, Nat.reduceLeDiff, Nat.reduceEqDiff, Nat.reduceSub, Nat.reduceMul, reduceCtorEq]
      refine callD (Drop' h d.n (by omega)) ?_
      simp (config := {maxSteps := 2000000, implicitDefEqProofs := false}) (disch := omega) only [↓reduceIte, go_sem, Int.reduceToNat, Nat.reduceAdd, Nat.reduceLeDiff, Nat.reduceEqDiff, Nat.reduceSub, Nat.reduceMul, reduceCtorEq]
      refine accL (by kernel_rfl) ?_
      simp (config := {maxSteps := 2000000, implicitDefEqProofs := false}) (disch := omega) only [↓reduceIte, go_sem, Int.reduceToNat, Nat.reduceAdd, Nat.reduceLeDiff, Nat.reduceEqDiff, Nat.reduceSub, Nat.reduceMul, reduceCtorEq]
      rw [e1, withS_false, withR_false]
      simp [retO]
    · by_cases k2 : d.k = 2
      · have hn' : d.n < 1000000000 := by
          unfold fewD at hf
          simp [k2] at hf
          omega
        have e1 : deedS bs d = two (hows 1) bs (ofS d.n.toNat d.l) := by simp [deedS, k2]
        simp (config := {maxSteps := 2000000, implicitDefEqProofs := false}) (disch := omega) only [↓reduceIte, go_sem, Int.reduceToNat, Nat.reduceAdd, Nat.reduceLeDiff, Nat.reduceEqDiff, Nat.reduceSub, Nat.reduceMul, reduceCtorEq]
        refine callD (hD hn') ?_
        simp (config := {maxSteps := 2000000, implicitDefEqProofs := false}) (disch := omega) only [↓reduceIte, go_sem, Int.reduceToNat, Nat.reduceAdd, Nat.reduceLeDiff, Nat.reduceEqDiff, Nat.reduceSub, Nat.reduceMul, reduceCtorEq, k2]
        refine callL (hT 1 (.inl rfl) hn') ?_
        simp (config := {maxSteps := 2000000, implicitDefEqProofs := false}) (disch := omega) only [↓reduceIte, go_sem, Int.reduceToNat, Nat.reduceAdd, Nat.reduceLeDiff, Nat.reduceEqDiff, Nat.reduceSub, Nat.reduceMul, reduceCtorEq, k2, tkP]
        refine callD (C21 h hP (by omega) (by omega)) ?_
        simp (config := {maxSteps := 2000000, implicitDefEqProofs := false}) (disch := omega) only [↓reduceIte, go_sem, Int.reduceToNat, Nat.reduceAdd, Nat.reduceLeDiff, Nat.reduceEqDiff, Nat.reduceSub, Nat.reduceMul, reduceCtorEq]
        refine ckL (scalW _) ?_
        simp (config := {maxSteps := 2000000, implicitDefEqProofs := false}) (disch := omega) only [↓reduceIte, go_sem, Int.reduceToNat, Nat.reduceAdd, Nat.reduceLeDiff, Nat.reduceEqDiff, Nat.reduceSub, Nat.reduceMul, reduceCtorEq]
        rw [e1]
        simp [retO, hows]
      · by_cases k3 : d.k = 3
        · have hn' : d.n < 1000000000 := by
            unfold fewD at hf
            simp [k3] at hf
            omega
          have e1 : deedS bs d = two (hows 2) bs (ofS d.n.toNat d.l) := by simp [deedS, k3]
          simp (config := {maxSteps := 2000000, implicitDefEqProofs := false}) (disch := omega) only [↓reduceIte, go_sem, Int.reduceToNat, Nat.reduceAdd, Nat.reduceLeDiff, Nat.reduceEqDiff, Nat.reduceSub, Nat.reduceMul, reduceCtorEq]
          refine callD (hD hn') ?_
          simp (config := {maxSteps := 2000000, implicitDefEqProofs := false}) (disch := omega) only [↓reduceIte, go_sem, Int.reduceToNat, Nat.reduceAdd, Nat.reduceLeDiff, Nat.reduceEqDiff, Nat.reduceSub, Nat.reduceMul, reduceCtorEq, k3]
          refine callL (hT 2 (.inr (.inl rfl)) hn') ?_
          simp (config := {maxSteps := 2000000, implicitDefEqProofs := false}) (disch := omega) only [↓reduceIte, go_sem, Int.reduceToNat, Nat.reduceAdd, Nat.reduceLeDiff, Nat.reduceEqDiff, Nat.reduceSub, Nat.reduceMul, reduceCtorEq, k3, tkP]
          refine callD (C30 h hP (by omega) (by omega)) ?_
          simp (config := {maxSteps := 2000000, implicitDefEqProofs := false}) (disch := omega) only [↓reduceIte, go_sem, Int.reduceToNat, Nat.reduceAdd, Nat.reduceLeDiff, Nat.reduceEqDiff, Nat.reduceSub, Nat.reduceMul, reduceCtorEq]
          refine ckL (scalW _) ?_
          simp (config := {maxSteps := 2000000, implicitDefEqProofs := false}) (disch := omega) only [↓reduceIte, go_sem, Int.reduceToNat, Nat.reduceAdd, Nat.reduceLeDiff, Nat.reduceEqDiff, Nat.reduceSub, Nat.reduceMul, reduceCtorEq]
          rw [e1]
          simp [retO, hows]
        · by_cases k4 : d.k = 4
          · have hn' : d.n < 1000000000 := by
              unfold fewD at hf
              simp [k4] at hf
              omega
            have e1 : deedS bs d = two (hows 3) bs (ofS d.n.toNat d.l) := by simp [deedS, k4]
            simp (config := {maxSteps := 2000000, implicitDefEqProofs := false}) (disch := omega) only [↓reduceIte, go_sem, Int.reduceToNat, Nat.reduceAdd, Nat.reduceLeDiff, Nat.reduceEqDiff, Nat.reduceSub, Nat.reduceMul, reduceCtorEq]
            refine callD (hD hn') ?_
            simp (config := {maxSteps := 2000000, implicitDefEqProofs := false}) (disch := omega) only [↓reduceIte, go_sem, Int.reduceToNat, Nat.reduceAdd, Nat.reduceLeDiff, Nat.reduceEqDiff, Nat.reduceSub, Nat.reduceMul, reduceCtorEq, k4]
            refine callL (hT 3 (.inr (.inr rfl)) hn') ?_
            simp (config := {maxSteps := 2000000, implicitDefEqProofs := false}) (disch := omega) only [↓reduceIte, go_sem, Int.reduceToNat, Nat.reduceAdd, Nat.reduceLeDiff, Nat.reduceEqDiff, Nat.reduceSub, Nat.reduceMul, reduceCtorEq, k4, tkP]
            refine callD (C31 h hP (by omega) (by omega)) ?_
            simp (config := {maxSteps := 2000000, implicitDefEqProofs := false}) (disch := omega) only [↓reduceIte, go_sem, Int.reduceToNat, Nat.reduceAdd, Nat.reduceLeDiff, Nat.reduceEqDiff, Nat.reduceSub, Nat.reduceMul, reduceCtorEq]
            refine ckL (scalW _) ?_
            simp (config := {maxSteps := 2000000, implicitDefEqProofs := false}) (disch := omega) only [↓reduceIte, go_sem, Int.reduceToNat, Nat.reduceAdd, Nat.reduceLeDiff, Nat.reduceEqDiff, Nat.reduceSub, Nat.reduceMul, reduceCtorEq]
            rw [e1]
            simp [retO, hows]
          · have e1 : deedS bs d = bs := by simp [deedS, k0, k1, k2, k3, k4]
            simp (config := {maxSteps := 2000000, implicitDefEqProofs := false}) (disch := omega) only [↓reduceIte, go_sem, Int.reduceToNat, Nat.reduceAdd, Nat.reduceLeDiff, Nat.reduceEqDiff, Nat.reduceSub, Nat.reduceMul, reduceCtorEq]
            rw [e1]
            exact ⟨rfl, rfl⟩
end Go.Proofs.YtmecfeocmlbjfaaDoor.X
namespace Go.Proofs.YtmecfeocmlbjfaaDoor.X
open Go Go.AM Go.Proofs
attribute [local go_sem ↓] w_skip w_lbl w_ops w_draw w_pre w_post w_alt w_seq w_cond w_block w_join w_loop w_exit w_ret w_scope w_rfunc l_nil l_cons th_n th_e th_r bk_n bk_r bk_e t_nil t_it t_call i_nil i_one i_grp s_nil s_cons c_call e_mv e_nil e_frz o_mov o_bin o_eq o_un o_conv o_len o_slen o_idx o_aix o_fad o_load o_store o_boxp o_boxo o_boxm o_alloc o_allocm o_alloca o_nilarr o_build o_bslp o_bslo o_slc o_sslc o_slc3 o_sidx o_mkfn o_mkmv o_vidx o_ext o_pick o_callf o_callb o_appd o_clear o_mxn o_field o_nilc o_make o_buildm o_boxg o_mkif o_tass o_eqs o_callo o_callx k_int k_str k_bool k_grb k_grt k_some k_none k_arr k_lens k_lenf k_lenh k_idxs k_idxf k_idxh k_ld k_loadp k_loadr k_loade k_storer k_storee k_oin k_ois k_slcs k_slcf k_slch k_slc3s k_slc3f k_slc3h k_app2 k_apps k_appf k_apph k_cals k_cald k_cali k_cnb k_cna k_esn k_esc k_efn k_efc k_esh b_add b_sub b_mul b_quo b_rem b_and b_or b_xor b_andNot b_eql b_neq b_lss b_leq b_gtr b_geq b_shl b_shr b_seq b_sne b_slt b_sad q_bool q_str q_nil q_nilf u_not u_neg u_xor f_ret f_nor v_r v_c v_g v_reg v_ob v_set v_put v_so v_sn v_pn v_pc g_nil d_nil p_nil m_mv m_fr z_nil z_cons z_an z_ac g_cons d_cons p_cons y_mov y_bin y_eq y_un y_conv y_len y_slen y_idx y_aix y_fad y_load y_store y_boxp y_boxo y_boxm y_alloc y_alloca y_allocm y_nilarr y_build y_bslp y_bslo y_slc y_sslc y_slc3 y_sidx y_mkfn y_ext y_pick y_callf y_callb y_appd y_clear y_mxn y_field y_nilc y_make y_buildm y_boxg y_mkif y_tass y_eqs y_callo y_mkmv y_callx y_vidx nb_if
attribute [local go_sem] nbd VL_mk VL2_mk If_t If_f If_not If_and If_or If_dt If_df If_et If_ef If_ne Ck_t Ck_h Opt_s ld_a ld_c lm_a lm_c renL ren keepR renA idxM invL getObs mapOb renOb allNone putAll fzR fzO fz fzL fzOb frzOk upFrom mapR resOne resA cellsOf oneA oneAL isP isPL okSt kRows kParts fillA setAt bor bor0 bor1 bor2 borC borI key0 key1 key2 keysA fillM cellsM cellM unif ptrA ifOk kPartsM getObsM allNoneM zipU scal0 scalar eqC evNil evNilF memK keyX hideM xbor scal1 scalX scalOb bndA mkMag showM lendV hideV hideR hideOb hideL hideO showL backO noneO mapA List.map_cons List.map_nil List.cons_append List.nil_append List.append_nil List.drop_zero List.drop_succ_cons List.drop_nil List.take_succ_cons List.take_zero List.take_nil List.length_cons List.length_nil List.length_map List.getElem?_map Option.map_some Option.map_none Int.toNat_natCast Int.toNat_zero Int.toNat_one Int.natCast_nonneg List.flatMap_cons List.flatMap_nil List.all_cons List.all_nil List.any_cons List.any_nil Bool.or_false Bool.false_or Bool.or_true Bool.true_or Bool.and_true Bool.true_and Bool.and_false Bool.false_and Bool.not_true Bool.not_false beq_self_eq_true nb_self all_nil List.forall_mem_cons tk_map tk_app bs_self bs_dec bq_t bq_f Bool.not_not decide_true decide_false Bool.not_not and_self and_true true_and eq_self List.reverse_cons List.reverse_nil List.getElem?_cons_zero List.getElem?_cons_succ cond_true cond_false List.set_cons_zero List.set_cons_succ Nat.zero_add Nat.add_zero if_true if_false ite_true ite_false implies_true wrap64 wrap8
open Go.Bits
set_option linter.unusedVariables false
set_option linter.unusedSimpArgs false
set_option maxRecDepth 10000
set_option maxHeartbeats 4000000
theorem A7_ok2 : okFun Tryd.prog 7 8 2 A7 [.tmp 2] [] = true := by kernel_rfl
theorem C7o {n : Int} (ws : List (List AV)) (m : Nat) : Ctr Tryd.prog 7 [.ref 0 0] [.box [.int .i64 n, .hs 1 0 0 m], .arr 0 1 ws] (retO [.mfn 24 [.ref 0 0]] [.box [.int .i64 n, .hs 1 0 0 m], .arr 0 1 ws]) := by
  apply ctr_b A7_ok2 rfl (Nat.le_of_ble_eq_true rfl)
  unfold A7
  simp only [initL, Nat.reduceAdd]
  simp (config := {maxSteps := 2000000, implicitDefEqProofs := false}) (disch := omega) only [↓reduceIte, go_sem, Int.reduceToNat, Nat.reduceAdd, Nat.reduceLeDiff, Nat.reduceEqDiff, Nat.reduceSub, Nat.reduceMul, reduceCtorEq]
  exact ⟨rfl, rfl⟩
theorem OfN (n : Nat) (l : List Int) (hn : n < 1000000000) (hl : l.length < 1000000000) : Ctr Tryd.prog 6 [.int .i64 (n : Int), .sl (l.map encZ)] [] (retO [.ref 0 0] [.box [.int .i64 (n : Int), .hs 1 0 0 (nw n)], .arr 0 1 (encWs (ofS n l))]) := by
  have := C6 (n : Int) l (by omega) hl
  rwa [Int.toNat_natCast] at this
theorem take_of {n : Nat} {bs : List Bool} (h : bs.length = n) : (encWs bs).take (nw n) = encWs bs := by rw [← h]; exact encWs_take bs
def w0 : List Bool := ofS 70 [3, 69, 3, 70]
def w1 : List Bool := two (fun x y => x || y) w0 (ofS 70 [4])
theorem w0_len : w0.length = 70 := ofS_len _ _
theorem w1_len : w1.length = 70 := by unfold w1; rw [two_len]; exact w0_len
theorem f1 : (ones w0).length = 2 := by decide
theorem f2 : hasB w0 69 = true := by decide
theorem f3 : hasB w0 70 = false := by decide
theorem f4 : (onesI w0 == onesI (ofS 100 [69, 3])) = true := by decide
theorem f5 : (ones (fullS 65)).length = 65 := by decide
theorem f6 : (w1 != w0) = true := by decide
theorem f7 : (two (fun x y => x || y) w1 (ofS 70 [4]) != w1) = false := by decide
theorem OfZ (n : Nat) (m : Int) (hm : m = (n : Int)) (l : List Int) (z : List (List AV)) (hz : z = l.map encZ) (hn : n < 1000000000) (hl : l.length < 1000000000) : Ctr Tryd.prog 6 [.int .i64 m, .sl z] [] (retO [.ref 0 0] [.box [.int .i64 (n : Int), .hs 1 0 0 (nw n)], .arr 0 1 (encWs (ofS n l))]) := by
  subst hm hz
  exact OfN n l hn hl
theorem C5 : Ctr Tryd.prog 5 [] [] (ret [.bool true]) := by
  have tk0 : (encWs w0).take (nw 70) = encWs w0 := take_of w0_len
  have tk1 : (encWs w1).take (nw 70) = encWs w1 := take_of w1_len
  have tk2 : (encWs (ofS 100 [69, 3])).take (nw 100) = encWs (ofS 100 [69, 3]) := take_of (ofS_len _ _)
  have tk3 : (encWs (fullS 65)).take (nw 65) = encWs (fullS 65) := take_of (fullS_len _)
  have tk4 : (encWs (ofS 70 [4])).take (nw 70) = encWs (ofS 70 [4]) := take_of (ofS_len _ _)
  have hO : Ctr Tryd.prog 6 [.int .i64 70, .sl [[.int .i64 3], [.int .i64 69], [.int .i64 3], [.int .i64 70]]] [] (retO [.ref 0 0] [.box [.int .i64 70, .hs 1 0 0 (nw 70)], .arr 0 1 (encWs w0)]) := OfZ 70 70 rfl [3, 69, 3, 70] _ rfl (by decide) (by decide)
  have hO2 : Ctr Tryd.prog 6 [.int .i64 100, .sl [[.int .i64 69], [.int .i64 3]]] [] (retO [.ref 0 0] [.box [.int .i64 100, .hs 1 0 0 (nw 100)], .arr 0 1 (encWs (ofS 100 [69, 3]))]) := OfZ 100 100 rfl [69, 3] _ rfl (by decide) (by decide)
  have hO3 : Ctr Tryd.prog 6 [.int .i64 70, .sl [[.int .i64 4]]] [] (retO [.ref 0 0] [.box [.int .i64 70, .hs 1 0 0 (nw 70)], .arr 0 1 (encWs (ofS 70 [4]))]) := OfZ 70 70 rfl [4] _ rfl (by decide) (by decide)
  apply ctr_bK A5_ok rfl (Nat.le_of_ble_eq_true rfl)
  unfold A5
  simp only [initL, Nat.reduceAdd]
  simp (config := {maxSteps := 2000000, implicitDefEqProofs := false}) (disch := omega) only [↓reduceIte, go_sem, Int.reduceToNat, Nat.reduceAdd, Nat.reduceLeDiff, Nat.reduceEqDiff, Nat.reduceSub, Nat.reduceMul, reduceCtorEq]
  refine callD hO ?_
  simp (config := {maxSteps := 2000000, implicitDefEqProofs := false}) (disch := omega) only [↓reduceIte, go_sem, Int.reduceToNat, Nat.reduceAdd, Nat.reduceLeDiff, Nat.reduceEqDiff, Nat.reduceSub, Nat.reduceMul, reduceCtorEq]
  refine callD (C7o (n := 70) _ _) ?_
  simp (config := {maxSteps := 2000000, implicitDefEqProofs := false}) (disch := omega) only [↓reduceIte, go_sem, Int.reduceToNat, Nat.reduceAdd, Nat.reduceLeDiff, Nat.reduceEqDiff, Nat.reduceSub, Nat.reduceMul, reduceCtorEq]
  refine rangeB (σ := Nat) (f := 24) (pre := [.rp [.int .i64 70, .sl (encWs w0)]]) (caps := []) (xs := onesZ w0) (.inr ⟨by simp (config := {maxSteps := 2000000, implicitDefEqProofs := false}) (disch := omega) only [↓reduceIte, go_sem, Int.reduceToNat, Nat.reduceAdd, Nat.reduceLeDiff, Nat.reduceEqDiff, Nat.reduceSub, Nat.reduceMul, reduceCtorEq, tk0], rfl, rfl⟩) (I24 w0_len (by decide)) (.inr fun x hx => ?_) (fun x hx => by rw [onesZ_eq] at hx; obtain ⟨s, _, rfl⟩ := List.mem_map.1 hx; rfl)
    (fun s => [(2, .pbox [.int .i64 (s : Nat)])]) (fun k s => s = k ∧ k ≤ 2) 0 (by simp (config := {maxSteps := 2000000, implicitDefEqProofs := false}) (disch := omega) only [↓reduceIte, go_sem, Int.reduceToNat, Nat.reduceAdd, Nat.reduceLeDiff, Nat.reduceEqDiff, Nat.reduceSub, Nat.reduceMul, reduceCtorEq]; rfl) ⟨rfl, Nat.zero_le _⟩ (fun s => ⟨rfl, rfl⟩) ?_ ?_
  · rw [onesZ_eq] at hx
    obtain ⟨s, _, rfl⟩ := List.mem_map.1 hx
    rfl
  · rintro k x s hx ⟨rfl, hk⟩
    have hl : s < 2 := by
      have := (List.getElem?_eq_some_iff.1 hx).1
      rw [onesZ_eq, List.length_map, onesI_len, f1] at this
      exact this
    have g4 : IntKind.i64.wrap ((s : Int) + 1) = ((s + 1 : Nat) : Int) := by rw [← wrapI (m := s + 1) (by omega)]; congr 1
    rw [onesZ_eq] at hx
    obtain ⟨z, _, rfl⟩ : ∃ z, (onesI w0)[s]? = some z ∧ encZ z = x := by simpa using hx
    simp (config := {maxSteps := 2000000, implicitDefEqProofs := false}) (disch := omega) only [↓reduceIte, go_sem, Int.reduceToNat, Nat.reduceAdd, Nat.reduceLeDiff, Nat.reduceEqDiff, Nat.reduceSub, Nat.reduceMul, reduceCtorEq, g4, encZ]
    exact ⟨rfl, s + 1, rfl, rfl, by omega⟩
  · rintro s ⟨rfl, hk⟩
    have hl : (onesZ w0).length = 2 := by rw [onesZ_eq, List.length_map, onesI_len, f1]
    rw [hl]
    simp (config := {maxSteps := 2000000, implicitDefEqProofs := false}) (disch := omega) only [↓reduceIte, go_sem, Int.reduceToNat, Nat.reduceAdd, Nat.reduceLeDiff, Nat.reduceEqDiff, Nat.reduceSub, Nat.reduceMul, reduceCtorEq, tk0]
    refine callL (Has' (n := 70) w0_len 69 (by decide)) ?_
    rw [f2]
    simp (config := {maxSteps := 2000000, implicitDefEqProofs := false}) (disch := omega) only [↓reduceIte, go_sem, Int.reduceToNat, Nat.reduceAdd, Nat.reduceLeDiff, Nat.reduceEqDiff, Nat.reduceSub, Nat.reduceMul, reduceCtorEq, tk0]
    refine callL (Has' (n := 70) w0_len 70 (by decide)) ?_
    rw [f3]
    simp (config := {maxSteps := 2000000, implicitDefEqProofs := false}) (disch := omega) only [↓reduceIte, go_sem, Int.reduceToNat, Nat.reduceAdd, Nat.reduceLeDiff, Nat.reduceEqDiff, Nat.reduceSub, Nat.reduceMul, reduceCtorEq, tk0]
    refine callL (C15 (n := 70) w0_len (by decide)) ?_
    rw [f1]
    simp (config := {maxSteps := 2000000, implicitDefEqProofs := false}) (disch := omega) only [↓reduceIte, go_sem, Int.reduceToNat, Nat.reduceAdd, Nat.reduceLeDiff, Nat.reduceEqDiff, Nat.reduceSub, Nat.reduceMul, reduceCtorEq, tk0]
    refine callL (Bound' (n := 70) w0_len) ?_
    simp (config := {maxSteps := 2000000, implicitDefEqProofs := false}) (disch := omega) only [↓reduceIte, go_sem, Int.reduceToNat, Nat.reduceAdd, Nat.reduceLeDiff, Nat.reduceEqDiff, Nat.reduceSub, Nat.reduceMul, reduceCtorEq]
    refine callD hO2 ?_
    simp (config := {maxSteps := 2000000, implicitDefEqProofs := false}) (disch := omega) only [↓reduceIte, go_sem, Int.reduceToNat, Nat.reduceAdd, Nat.reduceLeDiff, Nat.reduceEqDiff, Nat.reduceSub, Nat.reduceMul, reduceCtorEq, tk0, tk2]
    refine callL (C19 (n := 70) (m := 100) w0_len (ofS_len _ _) (by decide) (by decide)) ?_
    rw [f4]
    simp (config := {maxSteps := 2000000, implicitDefEqProofs := false}) (disch := omega) only [↓reduceIte, go_sem, Int.reduceToNat, Nat.reduceAdd, Nat.reduceLeDiff, Nat.reduceEqDiff, Nat.reduceSub, Nat.reduceMul, reduceCtorEq]
    refine callD (C20 65 (by decide)) ?_
    simp (config := {maxSteps := 2000000, implicitDefEqProofs := false}) (disch := omega) only [↓reduceIte, go_sem, Int.reduceToNat, Nat.reduceAdd, Nat.reduceLeDiff, Nat.reduceEqDiff, Nat.reduceSub, Nat.reduceMul, reduceCtorEq, tk3]
    refine callL (C15 (n := 65) (fullS_len _) (by decide)) ?_
    rw [f5]
    simp (config := {maxSteps := 2000000, implicitDefEqProofs := false}) (disch := omega) only [↓reduceIte, go_sem, Int.reduceToNat, Nat.reduceAdd, Nat.reduceLeDiff, Nat.reduceEqDiff, Nat.reduceSub, Nat.reduceMul, reduceCtorEq]
    refine callD hO3 ?_
    simp (config := {maxSteps := 2000000, implicitDefEqProofs := false}) (disch := omega) only [↓reduceIte, go_sem, Int.reduceToNat, Nat.reduceAdd, Nat.reduceLeDiff, Nat.reduceEqDiff, Nat.reduceSub, Nat.reduceMul, reduceCtorEq, tk4]
    refine callD (C21 (n := 70) (m := 70) w0_len (ofS_len _ _) (by decide) (by decide)) ?_
    simp (config := {maxSteps := 2000000, implicitDefEqProofs := false}) (disch := omega) only [↓reduceIte, go_sem, Int.reduceToNat, Nat.reduceAdd, Nat.reduceLeDiff, Nat.reduceEqDiff, Nat.reduceSub, Nat.reduceMul, reduceCtorEq]
    refine ckL (scalW _) ?_
    rw [show (two (fun x y => x || y) w0 (ofS 70 [4]) != w0) = true from f6]
    simp (config := {maxSteps := 2000000, implicitDefEqProofs := false}) (disch := omega) only [↓reduceIte, go_sem, Int.reduceToNat, Nat.reduceAdd, Nat.reduceLeDiff, Nat.reduceEqDiff, Nat.reduceSub, Nat.reduceMul, reduceCtorEq]
    refine callD hO3 ?_
    simp (config := {maxSteps := 2000000, implicitDefEqProofs := false}) (disch := omega) only [↓reduceIte, go_sem, Int.reduceToNat, Nat.reduceAdd, Nat.reduceLeDiff, Nat.reduceEqDiff, Nat.reduceSub, Nat.reduceMul, reduceCtorEq, tk4]
    refine callD (C21 (n := 70) (m := 70) w1_len (ofS_len _ _) (by decide) (by decide)) ?_
    rw [show (two (fun x y => x || y) (two (fun x y => x || y) w0 (ofS 70 [4])) (ofS 70 [4]) != two (fun x y => x || y) w0 (ofS 70 [4])) = false from f7]
    simp (config := {maxSteps := 2000000, implicitDefEqProofs := false}) (disch := omega) only [↓reduceIte, go_sem, Int.reduceToNat, Nat.reduceAdd, Nat.reduceLeDiff, Nat.reduceEqDiff, Nat.reduceSub, Nat.reduceMul, reduceCtorEq]
    refine ckL (scalW _) ?_
    simp (config := {maxSteps := 2000000, implicitDefEqProofs := false}) (disch := omega) only [↓reduceIte, go_sem, Int.reduceToNat, Nat.reduceAdd, Nat.reduceLeDiff, Nat.reduceEqDiff, Nat.reduceSub, Nat.reduceMul, reduceCtorEq]
    exact ⟨rfl, rfl⟩
end Go.Proofs.YtmecfeocmlbjfaaDoor.X
