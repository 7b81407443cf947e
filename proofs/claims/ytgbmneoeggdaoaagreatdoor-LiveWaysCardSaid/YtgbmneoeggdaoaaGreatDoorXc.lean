/- Part of a proof: what functions of the program do. -/
import Derived.Test.YtgbmneoeggdaoaaGreatDoorXa
import Derived.Test.YtgbmneoeggdaoaaGreatDoorXb
import Derived.Test.YtgbmneoeggdaoaaGreatDoorXam5
import Derived.RangeFuncBox
import Derived.RangeFuncLeaves
import Derived.Shelf.Abstract
import Derived.WalkKit
import Derived.OwnWalkIn
import Derived.TacticsInMore
import Derived.LoopNIn
import Derived.LoopIn
namespace Go.Proofs.YtgbmneoeggdaoaaGreatDoor.X
section
open Go Go.AM Go.Proofs
open Nat (reduceAdd reduceLeDiff reduceEqDiff reduceSub reduceMul)
open Int (reduceToNat)
attribute [local go_sem ↓] w_skip w_lbl w_ops w_draw w_pre w_post w_alt w_seq w_cond w_block w_join w_loop w_exit w_ret w_scope w_rfunc l_nil l_cons th_n th_e th_r bk_n bk_r bk_e t_nil t_it t_call t_callg i_nil i_one i_grp s_nil s_cons c_call c_callg e_rar e_dynB e_mv e_nil e_dyn e_nilb e_frz o_mov o_bin o_eq o_un o_conv o_len o_slen o_idx o_aix o_fad o_load o_store o_boxp o_boxo o_boxm o_alloc o_allocm o_alloca o_nilarr o_build o_bslp o_bslo o_slc o_sslc o_slc3 o_sidx o_mkfn o_mkmv o_calle o_bslr o_ridx o_rload o_rapp o_vidx o_ext o_pick o_callf o_callb o_appd o_clear o_mxn o_field o_nilc o_make o_makeb o_buildm o_boxg o_mkif o_tass o_eqs o_callo o_callx k_int k_str k_bool k_grb k_grt k_some k_none k_rar k_arr k_lens k_lenf k_lenh k_lenb k_idxb k_idxs k_idxf k_idxh k_ld k_loadp k_loadr k_loade k_storer k_storee k_oin k_ois k_slcs k_slcf k_slch k_slc3s k_slc3f k_slc3h k_app2 k_apps k_appf k_apph k_cals k_cald k_cali k_cnb k_cna k_esn k_esc k_efn k_efc k_esh b_add b_sub b_mul b_quo b_rem b_and b_or b_xor b_andNot b_eql b_neq b_lss b_leq b_gtr b_geq b_shl b_shr b_seq b_sne b_slt b_sad q_bool q_str q_nil q_nilf u_not u_neg u_xor f_ret f_nor v_r v_c v_g v_reg v_ob v_set v_put v_so v_sn v_pn v_pc g_nil d_nil p_nil m_mv m_fr z_nil z_cons z_an z_ac g_cons d_cons p_cons y_mov y_bin y_eq y_un y_conv y_len y_slen y_idx y_aix y_fad y_load y_store y_boxp y_boxo y_boxm y_alloc y_alloca y_allocm y_nilarr y_build y_bslp y_bslo y_slc y_sslc y_slc3 y_sidx y_mkfn y_ext y_pick y_callf y_callb y_appd y_clear y_mxn y_field y_nilc y_make y_makeb y_buildm y_boxg y_mkif y_tass y_eqs y_callo y_mkmv y_callx y_vidx y_bslr y_ridx y_rload y_rapp y_calle nb_if
attribute [local go_sem] nbd VL_mk VL2_mk If_t If_f If_not If_and If_or If_dt If_df If_et If_ef If_ne Ck_t Ck_h Opt_s ld_a ld_c lm_a lm_c renL ren keepR renA idxM invL getObs mapOb renOb allNone putAll fzR fzO fz fzL fzOb fzB frzOk upFrom mapR resOne resA cellsOf oneA oneAL isP isPL okSt kRows kParts fillA setAt bor bor0 bor1 bor2 borC borI key0 key1 key2 keysA fillM cellsM cellM unif ptrA ifOk kPartsM getObsM allNoneM zipU scal0 scalar eqC evNil evNilF memK keyX hideM xbor scal1 scalX scalOb bndA mkMag showM lendV hideV hideR hideOb hideL hideO showL backO noneO mapA List.map_cons List.map_nil List.cons_append List.nil_append List.append_nil List.drop_zero List.drop_succ_cons List.drop_nil List.take_succ_cons List.take_zero List.take_nil List.length_cons List.length_nil List.length_map List.getElem?_map Option.map_some Option.map_none Int.toNat_natCast Int.toNat_zero Int.toNat_one Int.natCast_nonneg List.flatMap_cons List.flatMap_nil List.all_cons List.all_nil List.any_cons List.any_nil Bool.or_false Bool.false_or Bool.or_true Bool.true_or Bool.and_true Bool.true_and Bool.and_false Bool.false_and Bool.not_true Bool.not_false beq_self_eq_true nb_self all_nil List.forall_mem_cons tk_map tk_app bs_self bs_dec bq_t bq_f Bool.not_not decide_true decide_false Bool.not_not and_self and_true true_and eq_self List.reverse_cons List.reverse_nil List.getElem?_cons_zero List.getElem?_cons_succ cond_true cond_false List.set_cons_zero List.set_cons_succ Nat.zero_add Nat.add_zero if_true if_false ite_true ite_false implies_true wrap64 wrap8
open Go.Bits
set_option linter.unusedVariables false
set_option linter.unusedSimpArgs false
set_option maxRecDepth 10000
def dbIdx (t : Nat) : Nat := (2 ^ t * 285870213051353865 % 2 ^ 64) / 2 ^ 58
theorem dbIdx_spec : ∀ t : Fin 64, dbIdx t.val < 64 ∧ (dbNums.drop (dbIdx t.val)).head? = some t.val := by decide
theorem db_drop (t : Nat) (h : t < 64) : dbIdx t < 64 ∧ ∃ r, dbTab.drop (dbIdx t) = .int .u8 (t : Int) :: r := by
 obtain ⟨h1, h2⟩ := dbIdx_spec ⟨t, h⟩
 refine ⟨h1, ?_⟩
 simp only at h2
 unfold dbTab
 rw [← List.map_drop]
 cases hd : dbNums.drop (dbIdx t) with
 | nil => rw [hd] at h2; cases h2
 | cons x r =>
  rw [hd] at h2
  simp only [List.head?_cons, Option.some.injEq] at h2
  subst h2
  exact ⟨_, rfl⟩
theorem globTab : globA GLOB 0 = .rp dbTab := rfl
theorem C103 (w : Nat) (h : w < 2 ^ 64) : Ctr Tryz.prog 103 [.int .u64 (w : Int)] [] (ret [.int .i64 (if w = 0 then 64 else (tz w : Int))]) := by
 apply ctr_b A103_ok rfl (Nat.le_of_ble_eq_true rfl)
 unfold A103
 simp only [initL, Nat.reduceAdd]
 simp -implicitDefEqProofs (disch := omega) only [↓reduceIte, go_sem, reduceToNat, reduceAdd, reduceLeDiff, reduceEqDiff, reduceSub, reduceMul, reduceCtorEq]
 refine ifE (fun e => ?_) (fun e => ?_)
 ·have : w = 0 := by omega
  subst this
  simp -implicitDefEqProofs (disch := omega) only [↓reduceIte, go_sem, reduceToNat, reduceAdd, reduceLeDiff, reduceEqDiff, reduceSub, reduceMul, reduceCtorEq]
  exact ⟨rfl, rfl⟩
 ·have hne : w ≠ 0 := by omega
  obtain ⟨g1, _⟩ := tz_spec 64 w hne h
  have g1 : tz w < 64 := g1
  have hneg : IntKind.u64.wrap (0 - (w : Int)) = ((2 ^ 64 - w : Nat) : Int) := by
   simp only [IntKind.wrap, IntKind.bits, IntKind.signed]
   simp
   omega
  have hand : bAnd .u64 (w : Int) ((2 ^ 64 - w : Nat) : Int) = ((2 ^ tz w : Nat) : Int) := by
   rw [bAnd_nat h (by omega), low_bit w hne h]
  have hmul : IntKind.u64.wrap (((2 ^ tz w : Nat) : Int) * 285870213051353865) = ((2 ^ tz w * 285870213051353865 % 2 ^ 64 : Nat) : Int) := by
   simp only [IntKind.wrap, IntKind.bits, IntKind.signed]
   simp
  have hshr := shr_nat (a := 2 ^ tz w * 285870213051353865 % 2 ^ 64) (j := 58) (by omega)
  change _ = ((dbIdx (tz w) : Nat) : Int) at hshr
  obtain ⟨hi, r, hd⟩ := db_drop (tz w) g1
  simp -implicitDefEqProofs (disch := omega) only [↓reduceIte, go_sem, reduceToNat, reduceAdd, reduceLeDiff, reduceEqDiff, reduceSub, reduceMul, reduceCtorEq, hneg, hand, hmul, hshr, globTab, hd, Nat.mul_one, if_neg hne]
  exact ⟨rfl, rfl⟩
theorem andN {a m : Nat} (ha : a < 2 ^ 64) (hm : m < 2 ^ 64) {M : Int} (e : M = (m : Int)) : bAnd .u64 (a : Int) M = ((a &&& m : Nat) : Int) := by rw [e]; exact bAnd_nat ha hm
end
section
open Go Go.AM Go.Proofs
open Nat (reduceAdd reduceLeDiff reduceEqDiff reduceSub reduceMul)
open Int (reduceToNat)
attribute [local go_sem ↓] w_skip w_lbl w_ops w_draw w_pre w_post w_alt w_seq w_cond w_block w_join w_loop w_exit w_ret w_scope w_rfunc l_nil l_cons th_n th_e th_r bk_n bk_r bk_e t_nil t_it t_call t_callg i_nil i_one i_grp s_nil s_cons c_call c_callg e_rar e_dynB e_mv e_nil e_dyn e_nilb e_frz o_mov o_bin o_eq o_un o_conv o_len o_slen o_idx o_aix o_fad o_load o_store o_boxp o_boxo o_boxm o_alloc o_allocm o_alloca o_nilarr o_build o_bslp o_bslo o_slc o_sslc o_slc3 o_sidx o_mkfn o_mkmv o_calle o_bslr o_ridx o_rload o_rapp o_vidx o_ext o_pick o_callf o_callb o_appd o_clear o_mxn o_field o_nilc o_make o_makeb o_buildm o_boxg o_mkif o_tass o_eqs o_callo o_callx k_int k_str k_bool k_grb k_grt k_some k_none k_rar k_arr k_lens k_lenf k_lenh k_lenb k_idxb k_idxs k_idxf k_idxh k_ld k_loadp k_loadr k_loade k_storer k_storee k_oin k_ois k_slcs k_slcf k_slch k_slc3s k_slc3f k_slc3h k_app2 k_apps k_appf k_apph k_cals k_cald k_cali k_cnb k_cna k_esn k_esc k_efn k_efc k_esh b_add b_sub b_mul b_quo b_rem b_and b_or b_xor b_andNot b_eql b_neq b_lss b_leq b_gtr b_geq b_shl b_shr b_seq b_sne b_slt b_sad q_bool q_str q_nil q_nilf u_not u_neg u_xor f_ret f_nor v_r v_c v_g v_reg v_ob v_set v_put v_so v_sn v_pn v_pc g_nil d_nil p_nil m_mv m_fr z_nil z_cons z_an z_ac g_cons d_cons p_cons y_mov y_bin y_eq y_un y_conv y_len y_slen y_idx y_aix y_fad y_load y_store y_boxp y_boxo y_boxm y_alloc y_alloca y_allocm y_nilarr y_build y_bslp y_bslo y_slc y_sslc y_slc3 y_sidx y_mkfn y_ext y_pick y_callf y_callb y_appd y_clear y_mxn y_field y_nilc y_make y_makeb y_buildm y_boxg y_mkif y_tass y_eqs y_callo y_mkmv y_callx y_vidx y_bslr y_ridx y_rload y_rapp y_calle nb_if
attribute [local go_sem] nbd VL_mk VL2_mk If_t If_f If_not If_and If_or If_dt If_df If_et If_ef If_ne Ck_t Ck_h Opt_s ld_a ld_c lm_a lm_c renL ren keepR renA idxM invL getObs mapOb renOb allNone putAll fzR fzO fz fzL fzOb fzB frzOk upFrom mapR resOne resA cellsOf oneA oneAL isP isPL okSt kRows kParts fillA setAt bor bor0 bor1 bor2 borC borI key0 key1 key2 keysA fillM cellsM cellM unif ptrA ifOk kPartsM getObsM allNoneM zipU scal0 scalar eqC evNil evNilF memK keyX hideM xbor scal1 scalX scalOb bndA mkMag showM lendV hideV hideR hideOb hideL hideO showL backO noneO mapA List.map_cons List.map_nil List.cons_append List.nil_append List.append_nil List.drop_zero List.drop_succ_cons List.drop_nil List.take_succ_cons List.take_zero List.take_nil List.length_cons List.length_nil List.length_map List.getElem?_map Option.map_some Option.map_none Int.toNat_natCast Int.toNat_zero Int.toNat_one Int.natCast_nonneg List.flatMap_cons List.flatMap_nil List.all_cons List.all_nil List.any_cons List.any_nil Bool.or_false Bool.false_or Bool.or_true Bool.true_or Bool.and_true Bool.true_and Bool.and_false Bool.false_and Bool.not_true Bool.not_false beq_self_eq_true nb_self all_nil List.forall_mem_cons tk_map tk_app bs_self bs_dec bq_t bq_f Bool.not_not decide_true decide_false Bool.not_not and_self and_true true_and eq_self List.reverse_cons List.reverse_nil List.getElem?_cons_zero List.getElem?_cons_succ cond_true cond_false List.set_cons_zero List.set_cons_succ Nat.zero_add Nat.add_zero if_true if_false ite_true ite_false implies_true wrap64 wrap8
open Go.Bits
set_option linter.unusedVariables false
set_option linter.unusedSimpArgs false
set_option maxRecDepth 10000
set_option maxHeartbeats 1000000
def inB (bs : List Bool) (i : Int) : Bool := decide (0 ≤ i ∧ i < bs.length)
def hasB (bs : List Bool) (i : Int) : Bool := decide (0 ≤ i) && bs.getD i.toNat false
theorem quo64 {m : Nat} : (m : Int).tdiv 64 = ((m / 64 : Nat) : Int) := rfl
theorem rem64 {m : Nat} : (m : Int).tmod 64 = ((m % 64 : Nat) : Int) := rfl
theorem wrapI {m : Nat} (h : m < 2 ^ 63) : IntKind.i64.wrap (m : Int) = (m : Int) := wrap64 (by omega) (by omega)
theorem C72 (bs : List Bool) (i : Int) : Ctr Tryz.prog 72 [.rp [.int .i64 (bs.length : Int), .sl (encWs bs)], .int .i64 i] [] (ret [.bool (inB bs i)]) := by
 apply ctr_b A72_ok rfl (Nat.le_of_ble_eq_true rfl)
 unfold A72
 simp only [initL, Nat.reduceAdd]
 simp -implicitDefEqProofs (disch := omega) only [↓reduceIte, go_sem, reduceToNat, reduceAdd, reduceLeDiff, reduceEqDiff, reduceSub, reduceMul, reduceCtorEq]
 refine ifD (fun h => ?_) (fun h => ?_)
 ·simp -implicitDefEqProofs (disch := omega) only [↓reduceIte, go_sem, reduceToNat, reduceAdd, reduceLeDiff, reduceEqDiff, reduceSub, reduceMul, reduceCtorEq]
  have : inB bs i = decide (i < bs.length) := by unfold inB; simp [h]
  rw [this]
  exact ⟨rfl, rfl⟩
 ·simp -implicitDefEqProofs (disch := omega) only [↓reduceIte, go_sem, reduceToNat, reduceAdd, reduceLeDiff, reduceEqDiff, reduceSub, reduceMul, reduceCtorEq]
  have : inB bs i = false := by unfold inB; simp; omega
  rw [this]
  exact ⟨rfl, rfl⟩
theorem C72_nil (i : Int) : Ctr Tryz.prog 72 [.nilp, .int .i64 i] [] (ret [.bool false]) := by
 apply ctr_b A72_ok rfl (Nat.le_of_ble_eq_true rfl)
 unfold A72
 simp only [initL, Nat.reduceAdd]
 simp -implicitDefEqProofs (disch := omega) only [↓reduceIte, go_sem, reduceToNat, reduceAdd, reduceLeDiff, reduceEqDiff, reduceSub, reduceMul, reduceCtorEq]
 exact ⟨rfl, rfl⟩
theorem C45 (bs : List Bool) (i : Int) (hl : bs.length < 2 ^ 62) : Ctr Tryz.prog 45 [.rp [.int .i64 (bs.length : Int), .sl (encWs bs)], .int .i64 i] [] (ret [.bool (hasB bs i)]) := by
 apply ctr_b A45_ok rfl (Nat.le_of_ble_eq_true rfl)
 unfold A45
 simp only [initL, Nat.reduceAdd]
 simp -implicitDefEqProofs (disch := omega) only [↓reduceIte, go_sem, reduceToNat, reduceAdd, reduceLeDiff, reduceEqDiff, reduceSub, reduceMul, reduceCtorEq]
 refine callL (C72 bs i) ?_
 simp -implicitDefEqProofs (disch := omega) only [↓reduceIte, go_sem, reduceToNat, reduceAdd, reduceLeDiff, reduceEqDiff, reduceSub, reduceMul, reduceCtorEq]
 refine ifL (fun h => ?_) (fun h => ?_)
 ·unfold inB at h
  have h := of_decide_eq_true h
  obtain ⟨m, rfl⟩ := Int.eq_ofNat_of_zero_le h.1
  have hm : m < bs.length := by omega
  have hk := nw_div hm
  have e1 := wrapI (m := m / 64) (by omega)
  have e2 := shr_nat (a := wordAt bs (m / 64)) (j := m % 64) (by omega)
  have hw : wordAt bs (m / 64) / 2 ^ (m % 64) < 2 ^ 64 := Nat.lt_of_le_of_lt (Nat.div_le_self _ _) (chunk_lt bs (m / 64))
  have e3 := andN (a := wordAt bs (m / 64) / 2 ^ (m % 64)) (m := 1) (M := 1) hw (by omega) rfl
  have e4 := has_word bs m hm
  rw [Nat.shiftRight_eq_div_pow] at e4
  have e4 : wordAt bs (m / 64) / 2 ^ (m % 64) &&& 1 = (bs.getD m false).toNat := e4
  rw [e4] at e3
  simp -implicitDefEqProofs (disch := omega) only [↓reduceIte, go_sem, reduceToNat, reduceAdd, reduceLeDiff, reduceEqDiff, reduceSub, reduceMul, reduceCtorEq, quo64, rem64, e1, encWs_get bs hk]
  simp -implicitDefEqProofs (disch := omega) only [↓reduceIte, go_sem, reduceToNat, reduceAdd, reduceLeDiff, reduceEqDiff, reduceSub, reduceMul, reduceCtorEq, e2, e3]
  have e5 : hasB bs (m : Int) = bs.getD m false := by simp [hasB]
  rw [e5]
  cases bs.getD m false <;> exact ⟨rfl, rfl⟩
 ·simp -implicitDefEqProofs (disch := omega) only [↓reduceIte, go_sem, reduceToNat, reduceAdd, reduceLeDiff, reduceEqDiff, reduceSub, reduceMul, reduceCtorEq]
  have : hasB bs i = false := by
   unfold inB at h
   have h := of_decide_eq_false h
   unfold hasB
   by_cases h0 : 0 ≤ i
   ·have : bs.length ≤ i.toNat := by omega
    simp [List.getD_eq_getElem?_getD, List.getElem?_eq_none this]
   ·simp [h0]
  rw [this]
  exact ⟨rfl, rfl⟩
theorem C45_nil (i : Int) : Ctr Tryz.prog 45 [.nilp, .int .i64 i] [] (ret [.bool false]) := by
 apply ctr_b A45_ok rfl (Nat.le_of_ble_eq_true rfl)
 unfold A45
 simp only [initL, Nat.reduceAdd]
 simp -implicitDefEqProofs (disch := omega) only [↓reduceIte, go_sem, reduceToNat, reduceAdd, reduceLeDiff, reduceEqDiff, reduceSub, reduceMul, reduceCtorEq]
 refine callL (C72_nil i) ?_
 simp -implicitDefEqProofs (disch := omega) only [↓reduceIte, go_sem, reduceToNat, reduceAdd, reduceLeDiff, reduceEqDiff, reduceSub, reduceMul, reduceCtorEq]
 exact ⟨rfl, rfl⟩
theorem C90 (bs : List Bool) (ws : List (List AV)) (k : Nat) (hl : bs.length < 2 ^ 62) (hk : k < nw bs.length) : Ctr Tryz.prog 90 [.rp [.int .i64 (bs.length : Int), .sl ws], .int .i64 (k : Int)] [] (ret [.int .u64 (maskW bs.length k : Int)]) := by
 apply ctr_b A90_ok rfl (Nat.le_of_ble_eq_true rfl)
 unfold A90
 simp only [initL, Nat.reduceAdd]
 have hk2 : 64 * k < bs.length := by unfold nw at hk; omega
 have e1 : IntKind.i64.wrap ((k : Int) * 64) = ((64 * k : Nat) : Int) := by rw [← wrapI (m := 64 * k) (by omega)]; congr 1; omega
 have e2 : IntKind.i64.wrap ((bs.length : Int) - ((64 * k : Nat) : Int)) = ((bs.length - 64 * k : Nat) : Int) := by rw [← wrapI (m := bs.length - 64 * k) (by omega)]; congr 1; omega
 simp -implicitDefEqProofs (disch := omega) only [↓reduceIte, go_sem, reduceToNat, reduceAdd, reduceLeDiff, reduceEqDiff, reduceSub, reduceMul, reduceCtorEq, e1, e2]
 refine ifD (fun h => ?_) (fun h => ?_)
 ·have h64 : bs.length - 64 * k < 64 := by omega
  have e3 := shl_nat h64
  have e4 : IntKind.u64.wrap (((2 ^ (bs.length - 64 * k) : Nat) : Int) - 1) = ((2 ^ (bs.length - 64 * k) - 1 : Nat) : Int) := by
   have := Nat.two_pow_pos (bs.length - 64 * k)
   have : (2 : Nat) ^ (bs.length - 64 * k) < 2 ^ 64 := Nat.pow_lt_pow_right (by omega) h64
   rw [← wrapN (n := 2 ^ (bs.length - 64 * k) - 1) (by omega)]
   congr 1
   omega
  simp -implicitDefEqProofs (disch := omega) only [↓reduceIte, go_sem, reduceToNat, reduceAdd, reduceLeDiff, reduceEqDiff, reduceSub, reduceMul, reduceCtorEq, e3, e4]
  have : maskW bs.length k = 2 ^ (bs.length - 64 * k) - 1 := by unfold maskW; rw [if_pos (by omega)]
  rw [this]
  exact ⟨rfl, rfl⟩
 ·simp -implicitDefEqProofs (disch := omega) only [↓reduceIte, go_sem, reduceToNat, reduceAdd, reduceLeDiff, reduceEqDiff, reduceSub, reduceMul, reduceCtorEq]
  have : maskW bs.length k = 2 ^ 64 - 1 := by unfold maskW; rw [if_neg (by omega)]
  rw [this]
  exact ⟨rfl, rfl⟩
end
section
open Go Go.AM Go.Proofs
open Nat (reduceAdd reduceLeDiff reduceEqDiff reduceSub reduceMul)
open Int (reduceToNat)
attribute [local go_sem ↓] w_skip w_lbl w_ops w_draw w_pre w_post w_alt w_seq w_cond w_block w_join w_loop w_exit w_ret w_scope w_rfunc l_nil l_cons th_n th_e th_r bk_n bk_r bk_e t_nil t_it t_call t_callg i_nil i_one i_grp s_nil s_cons c_call c_callg e_rar e_dynB e_mv e_nil e_dyn e_nilb e_frz o_mov o_bin o_eq o_un o_conv o_len o_slen o_idx o_aix o_fad o_load o_store o_boxp o_boxo o_boxm o_alloc o_allocm o_alloca o_nilarr o_build o_bslp o_bslo o_slc o_sslc o_slc3 o_sidx o_mkfn o_mkmv o_calle o_bslr o_ridx o_rload o_rapp o_vidx o_ext o_pick o_callf o_callb o_appd o_clear o_mxn o_field o_nilc o_make o_makeb o_buildm o_boxg o_mkif o_tass o_eqs o_callo o_callx k_int k_str k_bool k_grb k_grt k_some k_none k_rar k_arr k_lens k_lenf k_lenh k_lenb k_idxb k_idxs k_idxf k_idxh k_ld k_loadp k_loadr k_loade k_storer k_storee k_oin k_ois k_slcs k_slcf k_slch k_slc3s k_slc3f k_slc3h k_app2 k_apps k_appf k_apph k_cals k_cald k_cali k_cnb k_cna k_esn k_esc k_efn k_efc k_esh b_add b_sub b_mul b_quo b_rem b_and b_or b_xor b_andNot b_eql b_neq b_lss b_leq b_gtr b_geq b_shl b_shr b_seq b_sne b_slt b_sad q_bool q_str q_nil q_nilf u_not u_neg u_xor f_ret f_nor v_r v_c v_g v_reg v_ob v_set v_put v_so v_sn v_pn v_pc g_nil d_nil p_nil m_mv m_fr z_nil z_cons z_an z_ac g_cons d_cons p_cons y_mov y_bin y_eq y_un y_conv y_len y_slen y_idx y_aix y_fad y_load y_store y_boxp y_boxo y_boxm y_alloc y_alloca y_allocm y_nilarr y_build y_bslp y_bslo y_slc y_sslc y_slc3 y_sidx y_mkfn y_ext y_pick y_callf y_callb y_appd y_clear y_mxn y_field y_nilc y_make y_makeb y_buildm y_boxg y_mkif y_tass y_eqs y_callo y_mkmv y_callx y_vidx y_bslr y_ridx y_rload y_rapp y_calle nb_if
attribute [local go_sem] nbd VL_mk VL2_mk If_t If_f If_not If_and If_or If_dt If_df If_et If_ef If_ne Ck_t Ck_h Opt_s ld_a ld_c lm_a lm_c renL ren keepR renA idxM invL getObs mapOb renOb allNone putAll fzR fzO fz fzL fzOb fzB frzOk upFrom mapR resOne resA cellsOf oneA oneAL isP isPL okSt kRows kParts fillA setAt bor bor0 bor1 bor2 borC borI key0 key1 key2 keysA fillM cellsM cellM unif ptrA ifOk kPartsM getObsM allNoneM zipU scal0 scalar eqC evNil evNilF memK keyX hideM xbor scal1 scalX scalOb bndA mkMag showM lendV hideV hideR hideOb hideL hideO showL backO noneO mapA List.map_cons List.map_nil List.cons_append List.nil_append List.append_nil List.drop_zero List.drop_succ_cons List.drop_nil List.take_succ_cons List.take_zero List.take_nil List.length_cons List.length_nil List.length_map List.getElem?_map Option.map_some Option.map_none Int.toNat_natCast Int.toNat_zero Int.toNat_one Int.natCast_nonneg List.flatMap_cons List.flatMap_nil List.all_cons List.all_nil List.any_cons List.any_nil Bool.or_false Bool.false_or Bool.or_true Bool.true_or Bool.and_true Bool.true_and Bool.and_false Bool.false_and Bool.not_true Bool.not_false beq_self_eq_true nb_self all_nil List.forall_mem_cons tk_map tk_app bs_self bs_dec bq_t bq_f Bool.not_not decide_true decide_false Bool.not_not and_self and_true true_and eq_self List.reverse_cons List.reverse_nil List.getElem?_cons_zero List.getElem?_cons_succ cond_true cond_false List.set_cons_zero List.set_cons_succ Nat.zero_add Nat.add_zero if_true if_false ite_true ite_false implies_true wrap64 wrap8
open Go.Bits
set_option linter.unusedVariables false
set_option linter.unusedSimpArgs false
set_option maxRecDepth 10000
set_option maxHeartbeats 1000000
def noneB (n : Nat) : List Bool := List.replicate n false
theorem noneB_len {n : Nat} : (noneB n).length = n := by simp [noneB]
theorem noneB_get {n i : Nat} : (noneB n).getD i false = false := by
 simp only [noneB, List.getD_eq_getElem?_getD, List.getElem?_replicate]
 split <;> rfl
theorem noneB_words {n : Nat} : encWs (noneB n) = List.replicate (nw n) [.int .u64 0] := by
 apply List.ext_getElem?
 intro k
 by_cases hk : k < nw n
 ·rw [encWs_get _ (by rw [noneB_len]; exact hk), List.getElem?_replicate, if_pos hk]
  have : wordAt (noneB n) k = 0 := by
   apply word_ext (chunk_lt _ _) (by omega)
   intro j hj
   rw [chunk_bit, noneB_get]
   simp
  rw [this]
  rfl
 ·rw [List.getElem?_eq_none (by rw [encWs_len, noneB_len]; omega), List.getElem?_eq_none (by simp; omega)]
theorem C30 (n : Int) (hn : n < 1000000000) : Ctr Tryz.prog 30 [.int .i64 n] [] (retO [.ref 0 0] (setObs (noneB n.toNat))) := by
 apply ctr_b A30_ok rfl (Nat.le_of_ble_eq_true rfl)
 unfold A30
 simp only [initL, Nat.reduceAdd]
 have e0 : (if (0 : Int) > n then (0 : Int) else n) = (n.toNat : Int) := by split <;> omega
 have e1 : IntKind.i64.wrap ((n.toNat : Int) + 64) = ((n.toNat + 64 : Nat) : Int) := by rw [← wrapI (m := n.toNat + 64) (by omega)]; congr 1
 have e2 : IntKind.i64.wrap (((n.toNat + 64 : Nat) : Int) - 1) = ((n.toNat + 63 : Nat) : Int) := by rw [← wrapI (m := n.toNat + 63) (by omega)]; congr 1; omega
 have e3 : IntKind.i64.wrap (((n.toNat + 63) / 64 : Nat) : Int) = ((nw n.toNat : Nat) : Int) := wrapI (m := nw n.toNat) (by unfold nw; omega)
 have hsz : ((nw n.toNat : Nat) : Int) * 8 ≤ 140737488355328 := by unfold nw; omega
 simp -implicitDefEqProofs (disch := omega) only [↓reduceIte, go_sem, reduceToNat, reduceAdd, reduceLeDiff, reduceEqDiff, reduceSub, reduceMul, reduceCtorEq, e0, e1, e2, quo64, e3]
 refine ⟨rfl, ?_⟩
 unfold setObs
 rw [noneB_words, noneB_len]
def addS (bs : List Bool) (i : Int) : List Bool := if inB bs i = true then bs.set i.toNat true else bs
def addR (bs : List Bool) (i : Int) : Bool := inB bs i && !hasB bs i
def dropS (bs : List Bool) (i : Int) : List Bool := if inB bs i = true then bs.set i.toNat false else bs
theorem addS_len (bs : List Bool) (i : Int) : (addS bs i).length = bs.length := by unfold addS; split <;> simp
theorem dropS_len (bs : List Bool) (i : Int) : (dropS bs i).length = bs.length := by unfold dropS; split <;> simp
theorem set_same (bs : List Bool) (i : Nat) (b : Bool) (h : bs.getD i false = b) : bs.set i b = bs := by
 apply List.ext_getElem?
 intro j
 rw [List.getElem?_set]
 by_cases e : i = j
 ·subst e
  by_cases hi : i < bs.length
  ·simp only [List.getD_eq_getElem?_getD, List.getElem?_eq_getElem hi, Option.getD_some] at h
   simp [hi, h]
  ·simp [hi]
 ·rw [if_neg e]
theorem hasB_in {bs : List Bool} {i : Int} (h : hasB bs i = true) : inB bs i = true := by
 unfold hasB at h
 simp only [Bool.and_eq_true, decide_eq_true_eq] at h
 unfold inB
 simp only [decide_eq_true_eq]
 refine ⟨h.1, ?_⟩
 by_cases hi : i.toNat < bs.length
 ·omega
 ·rw [List.getD_eq_getElem?_getD, List.getElem?_eq_none (by omega)] at h
  simp at h
theorem addS_has {bs : List Bool} {i : Int} (h : hasB bs i = true) : addS bs i = bs := by
 unfold addS
 rw [if_pos (hasB_in h)]
 apply set_same
 unfold hasB at h
 simp only [Bool.and_eq_true] at h
 exact h.2
theorem dropS_has {bs : List Bool} {i : Int} (h : hasB bs i = false) : dropS bs i = bs := by
 unfold dropS
 split
 ·rename_i h1
  apply set_same
  unfold hasB at h
  unfold inB at h1
  simp only [decide_eq_true_eq] at h1
  simpa [h1.1] using h
 ·rfl
theorem encWs_take (bs : List Bool) : (encWs bs).take (nw bs.length) = encWs bs := List.take_of_length_le (by rw [encWs_len]; omega)
end
section
open Go Go.AM Go.Proofs
open Nat (reduceAdd reduceLeDiff reduceEqDiff reduceSub reduceMul)
open Int (reduceToNat)
attribute [local go_sem ↓] w_skip w_lbl w_ops w_draw w_pre w_post w_alt w_seq w_cond w_block w_join w_loop w_exit w_ret w_scope w_rfunc l_nil l_cons th_n th_e th_r bk_n bk_r bk_e t_nil t_it t_call t_callg i_nil i_one i_grp s_nil s_cons c_call c_callg e_rar e_dynB e_mv e_nil e_dyn e_nilb e_frz o_mov o_bin o_eq o_un o_conv o_len o_slen o_idx o_aix o_fad o_load o_store o_boxp o_boxo o_boxm o_alloc o_allocm o_alloca o_nilarr o_build o_bslp o_bslo o_slc o_sslc o_slc3 o_sidx o_mkfn o_mkmv o_calle o_bslr o_ridx o_rload o_rapp o_vidx o_ext o_pick o_callf o_callb o_appd o_clear o_mxn o_field o_nilc o_make o_makeb o_buildm o_boxg o_mkif o_tass o_eqs o_callo o_callx k_int k_str k_bool k_grb k_grt k_some k_none k_rar k_arr k_lens k_lenf k_lenh k_lenb k_idxb k_idxs k_idxf k_idxh k_ld k_loadp k_loadr k_loade k_storer k_storee k_oin k_ois k_slcs k_slcf k_slch k_slc3s k_slc3f k_slc3h k_app2 k_apps k_appf k_apph k_cals k_cald k_cali k_cnb k_cna k_esn k_esc k_efn k_efc k_esh b_add b_sub b_mul b_quo b_rem b_and b_or b_xor b_andNot b_eql b_neq b_lss b_leq b_gtr b_geq b_shl b_shr b_seq b_sne b_slt b_sad q_bool q_str q_nil q_nilf u_not u_neg u_xor f_ret f_nor v_r v_c v_g v_reg v_ob v_set v_put v_so v_sn v_pn v_pc g_nil d_nil p_nil m_mv m_fr z_nil z_cons z_an z_ac g_cons d_cons p_cons y_mov y_bin y_eq y_un y_conv y_len y_slen y_idx y_aix y_fad y_load y_store y_boxp y_boxo y_boxm y_alloc y_alloca y_allocm y_nilarr y_build y_bslp y_bslo y_slc y_sslc y_slc3 y_sidx y_mkfn y_ext y_pick y_callf y_callb y_appd y_clear y_mxn y_field y_nilc y_make y_makeb y_buildm y_boxg y_mkif y_tass y_eqs y_callo y_mkmv y_callx y_vidx y_bslr y_ridx y_rload y_rapp y_calle nb_if
attribute [local go_sem] nbd VL_mk VL2_mk If_t If_f If_not If_and If_or If_dt If_df If_et If_ef If_ne Ck_t Ck_h Opt_s ld_a ld_c lm_a lm_c renL ren keepR renA idxM invL getObs mapOb renOb allNone putAll fzR fzO fz fzL fzOb fzB frzOk upFrom mapR resOne resA cellsOf oneA oneAL isP isPL okSt kRows kParts fillA setAt bor bor0 bor1 bor2 borC borI key0 key1 key2 keysA fillM cellsM cellM unif ptrA ifOk kPartsM getObsM allNoneM zipU scal0 scalar eqC evNil evNilF memK keyX hideM xbor scal1 scalX scalOb bndA mkMag showM lendV hideV hideR hideOb hideL hideO showL backO noneO mapA List.map_cons List.map_nil List.cons_append List.nil_append List.append_nil List.drop_zero List.drop_succ_cons List.drop_nil List.take_succ_cons List.take_zero List.take_nil List.length_cons List.length_nil List.length_map List.getElem?_map Option.map_some Option.map_none Int.toNat_natCast Int.toNat_zero Int.toNat_one Int.natCast_nonneg List.flatMap_cons List.flatMap_nil List.all_cons List.all_nil List.any_cons List.any_nil Bool.or_false Bool.false_or Bool.or_true Bool.true_or Bool.and_true Bool.true_and Bool.and_false Bool.false_and Bool.not_true Bool.not_false beq_self_eq_true nb_self all_nil List.forall_mem_cons tk_map tk_app bs_self bs_dec bq_t bq_f Bool.not_not decide_true decide_false Bool.not_not and_self and_true true_and eq_self List.reverse_cons List.reverse_nil List.getElem?_cons_zero List.getElem?_cons_succ cond_true cond_false List.set_cons_zero List.set_cons_succ Nat.zero_add Nat.add_zero if_true if_false ite_true ite_false implies_true wrap64 wrap8
open Go.Bits
set_option linter.unusedVariables false
set_option linter.unusedSimpArgs false
set_option maxRecDepth 10000
set_option maxHeartbeats 2000000
/-- A word's function that goes bit by bit. -/
structure WordF (fn : Nat) (g : Nat → Nat → Nat) (f : Bool → Bool → Bool) : Prop where
 bit : ∀ a b j, a < 2 ^ 64 → b < 2 ^ 64 → j < 64 → (g a b).testBit j = f (a.testBit j) (b.testBit j)
 lt : ∀ a b, a < 2 ^ 64 → b < 2 ^ 64 → g a b < 2 ^ 64
 ctr : ∀ a b : Nat, a < 2 ^ 64 → b < 2 ^ 64 → Ctr Tryz.prog fn [.int .u64 (a : Int), .int .u64 (b : Int)] [] (ret [.int .u64 (g a b : Int)])
theorem W58 : WordF 58 (fun a b => a ||| b) (fun x y => x || y) where
 bit := fun a b j _ _ _ => by rw [Nat.testBit_or]
 lt := fun a b h1 h2 => Nat.or_lt_two_pow h1 h2
 ctr := fun a b h1 h2 => by
  apply ctr_b A58_ok rfl (Nat.le_of_ble_eq_true rfl)
  unfold A58
  simp only [initL, Nat.reduceAdd]
  simp -implicitDefEqProofs (disch := omega) only [↓reduceIte, go_sem, reduceToNat, reduceAdd, reduceLeDiff, reduceEqDiff, reduceSub, reduceMul, reduceCtorEq, bOr_nat h1 h2]
  exact ⟨rfl, rfl⟩
def partW (T bs : List Bool) (s : Nat) : List (List AV) := (encWs T).take s ++ (encWs bs).drop s
theorem partW_len {T bs : List Bool} {s : Nat} (h : T.length = bs.length) (hs : s ≤ nw bs.length) : (partW T bs s).length = nw bs.length := by
 simp only [partW, List.length_append, List.length_take, List.length_drop, encWs_len, h]
 omega
theorem partW_get {T bs : List Bool} {s : Nat} (h : T.length = bs.length) (hs : s < nw bs.length) : (partW T bs s)[s]? = some [.int .u64 (wordAt bs s : Int)] := by
 unfold partW
 rw [List.getElem?_append_right (by rw [List.length_take, encWs_len]; omega), List.length_take, encWs_len, h, Nat.min_eq_left (by omega), Nat.sub_self, List.getElem?_drop, Nat.add_zero, encWs_get bs hs]
theorem partW_set {T bs : List Bool} {s : Nat} (h : T.length = bs.length) (hs : s < nw bs.length) : (partW T bs s).set s [.int .u64 (wordAt T s : Int)] = partW T bs (s + 1) := by
 unfold partW
 have h1 : ((encWs T).take s).length = s := by rw [List.length_take, encWs_len, h]; omega
 rw [List.set_append_right _ _ (by omega), h1, Nat.sub_self]
 have h2 : (encWs bs).drop s = [.int .u64 (wordAt bs s : Int)] :: (encWs bs).drop (s + 1) := by
  have := encWs_get bs hs
  rw [List.getElem?_eq_some_iff] at this
  obtain ⟨h3, h4⟩ := this
  rw [← List.getElem_cons_drop h3, h4]
 have h5 : (encWs T).take (s + 1) = (encWs T).take s ++ [[.int .u64 (wordAt T s : Int)]] := by
  rw [List.take_add_one, encWs_get T (by rw [h]; exact hs)]
  rfl
 rw [h2, List.set_cons_zero, h5, List.append_assoc]
 rfl
theorem partW_zero {T bs : List Bool} : partW T bs 0 = encWs bs := by simp [partW]
theorem partW_all {T bs : List Bool} (h : T.length = bs.length) : partW T bs (nw bs.length) = encWs T := by
 unfold partW
 rw [List.take_of_length_le (by rw [encWs_len, h]; omega), List.drop_of_length_le (by rw [encWs_len]; omega), List.append_nil]
def chg (T bs : List Bool) (s : Nat) : Bool := (List.range s).any fun k => wordAt T k != wordAt bs k
theorem chg_succ {T bs : List Bool} {s : Nat} : chg T bs (s + 1) = (chg T bs s || (wordAt T s != wordAt bs s)) := by
 simp [chg, List.range_succ, List.any_append]
theorem chg_all {T bs : List Bool} (h : T.length = bs.length) : chg T bs (nw bs.length) = (T != bs) := by
 cases hc : chg T bs (nw bs.length) with
 | false =>
  have : T = bs := by
   apply wordsOf_inj h
   intro k hk
   unfold chg at hc
   rw [List.any_eq_false] at hc
   have := hc k (List.mem_range.2 (by rw [h] at hk; exact hk))
   simpa using this
  rw [this]
  simp
 | true =>
  unfold chg at hc
  rw [List.any_eq_true] at hc
  obtain ⟨k, _, hk⟩ := hc
  have hne : T ≠ bs := fun e => by subst e; simp at hk
  simp [hne]
theorem C57 {fn : Nat} {g : Nat → Nat → Nat} {f : Bool → Bool → Bool} (W : WordF fn g f) (bs os : List Bool) (hl : bs.length < 2 ^ 62) (hl2 : os.length < 2 ^ 62) :
  Ctr Tryz.prog 57 [.ref 0 0, .rp [.int .i64 (os.length : Int), .sl (encWs os)], .fn fn []] (setObs bs) (retO [.bool (two f bs os != bs)] (setObs (two f bs os))) := by
 have hT := two_len f bs os
 unfold setObs
 rw [hT]
 apply ctr_b A57_ok rfl (Nat.le_of_ble_eq_true rfl)
 unfold A57
 simp only [initL, Nat.reduceAdd]
 simp -implicitDefEqProofs (disch := omega) only [↓reduceIte, go_sem, reduceToNat, reduceAdd, reduceLeDiff, reduceEqDiff, reduceSub, reduceMul, reduceCtorEq]
 refine loopL (σ := Nat) (fun s => ⟨[(0, .ref 0 0), (1, .rp [.int .i64 (os.length : Int), .sl (encWs os)]), (2, .fn fn []), (7, .bool (chg (two f bs os) bs s)), (21, .hs 1 0 0 (nw bs.length)), (22, .int .i64 (nw bs.length : Nat)), (23, .int .i64 (s : Nat))],
   [(0, .box [.int .i64 (bs.length : Int), .hs 1 0 0 (nw bs.length)]), (1, .arr 0 1 (partW (two f bs os) bs s))]⟩) (fun s => s ≤ nw bs.length) (fun s => nw bs.length - s) 0 (by simp -implicitDefEqProofs (disch := omega) only [↓reduceIte, go_sem, reduceToNat, reduceAdd, reduceLeDiff, reduceEqDiff, reduceSub, reduceMul, reduceCtorEq]; rw [partW_zero]; rfl) (Nat.zero_le _) ?_
 intro s hs
 simp -implicitDefEqProofs (disch := omega) only [↓reduceIte, go_sem, reduceToNat, reduceAdd, reduceLeDiff, reduceEqDiff, reduceSub, reduceMul, reduceCtorEq]
 refine ifD (fun c => ?_) (fun c => ?_)
 ·have hlt : s < nw bs.length := by omega
  have g1 := partW_get hT hlt
  have g2 := partW_set hT hlt
  have g3 : (partW (two f bs os) bs s).take (nw bs.length) = partW (two f bs os) bs s := List.take_of_length_le (by rw [partW_len hT hs]; omega)
  have g4 : IntKind.i64.wrap ((s : Int) + 1) = ((s + 1 : Nat) : Int) := by rw [← wrapI (m := s + 1) (by unfold nw at hlt; omega)]; congr 1
  have w1 := two_word f g W.bit bs os s
  have w2 := bAnd_nat (a := g (wordAt bs s) (wordAt os s)) (b := maskW bs.length s) (W.lt _ _ (chunk_lt bs s) (chunk_lt os s)) (maskW_lt _ _)
  rw [w1] at w2
  have w3 : ((wordAt (two f bs os) s : Int) != (wordAt bs s : Int)) = (wordAt (two f bs os) s != wordAt bs s) := by
   rw [Bool.eq_iff_iff]
   simp only [bne_iff_ne, ne_eq, Int.ofNat_inj]
  simp -implicitDefEqProofs (disch := omega) only [↓reduceIte, go_sem, reduceToNat, reduceAdd, reduceLeDiff, reduceEqDiff, reduceSub, reduceMul, reduceCtorEq, g1, encWs_len]
  refine ifD (fun c2 => ?_) (fun c2 => ?_)
  ·have hlt2 : s < nw os.length := by omega
   simp -implicitDefEqProofs (disch := omega) only [↓reduceIte, go_sem, reduceToNat, reduceAdd, reduceLeDiff, reduceEqDiff, reduceSub, reduceMul, reduceCtorEq, g1, encWs_len, encWs_get os hlt2]
   refine callL (W.ctr _ _ (chunk_lt bs s) (chunk_lt os s)) ?_
   simp -implicitDefEqProofs (disch := omega) only [↓reduceIte, go_sem, reduceToNat, reduceAdd, reduceLeDiff, reduceEqDiff, reduceSub, reduceMul, reduceCtorEq, g3]
   refine callL (C90 bs _ s hl hlt) ?_
   simp -implicitDefEqProofs (disch := omega) only [↓reduceIte, go_sem, reduceToNat, reduceAdd, reduceLeDiff, reduceEqDiff, reduceSub, reduceMul, reduceCtorEq]
   have w4 : bAnd .u64 ((g (wordAt bs s) (wordAt os s) : Nat) : Int) ((maskW bs.length s : Nat) : Int) = _ := w2
   cases hc : chg (two f bs os) bs s with
   | true =>
    simp -implicitDefEqProofs (disch := omega) only [↓reduceIte, go_sem, reduceToNat, reduceAdd, reduceLeDiff, reduceEqDiff, reduceSub, reduceMul, reduceCtorEq, w4, w3, g1, g2, g4]
    refine ⟨s + 1, ?_, by omega, by omega⟩
    rw [chg_succ, hc]
    rfl
   | false =>
    simp -implicitDefEqProofs (disch := omega) only [↓reduceIte, go_sem, reduceToNat, reduceAdd, reduceLeDiff, reduceEqDiff, reduceSub, reduceMul, reduceCtorEq, w4, w3, g1, g2, g4]
    refine ⟨s + 1, ?_, by omega, by omega⟩
    rw [chg_succ, hc]
    rfl
  ·have hz : wordAt os s = 0 := wordAt_none os s (by omega)
   have hz' : (0 : Int) = ((wordAt os s : Nat) : Int) := by rw [hz]; rfl
   simp -implicitDefEqProofs (disch := omega) only [↓reduceIte, go_sem, reduceToNat, reduceAdd, reduceLeDiff, reduceEqDiff, reduceSub, reduceMul, reduceCtorEq]
   rw [hz']
   refine callL (W.ctr _ _ (chunk_lt bs s) (chunk_lt os s)) ?_
   simp -implicitDefEqProofs (disch := omega) only [↓reduceIte, go_sem, reduceToNat, reduceAdd, reduceLeDiff, reduceEqDiff, reduceSub, reduceMul, reduceCtorEq, g3]
   refine callL (C90 bs _ s hl hlt) ?_
   simp -implicitDefEqProofs (disch := omega) only [↓reduceIte, go_sem, reduceToNat, reduceAdd, reduceLeDiff, reduceEqDiff, reduceSub, reduceMul, reduceCtorEq]
   have w4 : bAnd .u64 ((g (wordAt bs s) (wordAt os s) : Nat) : Int) ((maskW bs.length s : Nat) : Int) = _ := w2
   cases hc : chg (two f bs os) bs s with
   | true =>
    simp -implicitDefEqProofs (disch := omega) only [↓reduceIte, go_sem, reduceToNat, reduceAdd, reduceLeDiff, reduceEqDiff, reduceSub, reduceMul, reduceCtorEq, w4, w3, g1, g2, g4]
    refine ⟨s + 1, ?_, by omega, by omega⟩
    rw [chg_succ, hc]
    rfl
   | false =>
    simp -implicitDefEqProofs (disch := omega) only [↓reduceIte, go_sem, reduceToNat, reduceAdd, reduceLeDiff, reduceEqDiff, reduceSub, reduceMul, reduceCtorEq, w4, w3, g1, g2, g4]
    refine ⟨s + 1, ?_, by omega, by omega⟩
    rw [chg_succ, hc]
    rfl
 ·have hs : s = nw bs.length := by omega
  subst hs
  simp -implicitDefEqProofs (disch := omega) only [↓reduceIte, go_sem, reduceToNat, reduceAdd, reduceLeDiff, reduceEqDiff, reduceSub, reduceMul, reduceCtorEq]
  rw [chg_all hT, partW_all hT]
  exact ⟨rfl, rfl⟩
end
section
open Go Go.AM Go.Proofs
open Nat (reduceAdd reduceLeDiff reduceEqDiff reduceSub reduceMul)
open Int (reduceToNat)
attribute [local go_sem ↓] w_skip w_lbl w_ops w_draw w_pre w_post w_alt w_seq w_cond w_block w_join w_loop w_exit w_ret w_scope w_rfunc l_nil l_cons th_n th_e th_r bk_n bk_r bk_e t_nil t_it t_call t_callg i_nil i_one i_grp s_nil s_cons c_call c_callg e_rar e_dynB e_mv e_nil e_dyn e_nilb e_frz o_mov o_bin o_eq o_un o_conv o_len o_slen o_idx o_aix o_fad o_load o_store o_boxp o_boxo o_boxm o_alloc o_allocm o_alloca o_nilarr o_build o_bslp o_bslo o_slc o_sslc o_slc3 o_sidx o_mkfn o_mkmv o_calle o_bslr o_ridx o_rload o_rapp o_vidx o_ext o_pick o_callf o_callb o_appd o_clear o_mxn o_field o_nilc o_make o_makeb o_buildm o_boxg o_mkif o_tass o_eqs o_callo o_callx k_int k_str k_bool k_grb k_grt k_some k_none k_rar k_arr k_lens k_lenf k_lenh k_lenb k_idxb k_idxs k_idxf k_idxh k_ld k_loadp k_loadr k_loade k_storer k_storee k_oin k_ois k_slcs k_slcf k_slch k_slc3s k_slc3f k_slc3h k_app2 k_apps k_appf k_apph k_cals k_cald k_cali k_cnb k_cna k_esn k_esc k_efn k_efc k_esh b_add b_sub b_mul b_quo b_rem b_and b_or b_xor b_andNot b_eql b_neq b_lss b_leq b_gtr b_geq b_shl b_shr b_seq b_sne b_slt b_sad q_bool q_str q_nil q_nilf u_not u_neg u_xor f_ret f_nor v_r v_c v_g v_reg v_ob v_set v_put v_so v_sn v_pn v_pc g_nil d_nil p_nil m_mv m_fr z_nil z_cons z_an z_ac g_cons d_cons p_cons y_mov y_bin y_eq y_un y_conv y_len y_slen y_idx y_aix y_fad y_load y_store y_boxp y_boxo y_boxm y_alloc y_alloca y_allocm y_nilarr y_build y_bslp y_bslo y_slc y_sslc y_slc3 y_sidx y_mkfn y_ext y_pick y_callf y_callb y_appd y_clear y_mxn y_field y_nilc y_make y_makeb y_buildm y_boxg y_mkif y_tass y_eqs y_callo y_mkmv y_callx y_vidx y_bslr y_ridx y_rload y_rapp y_calle nb_if
attribute [local go_sem] nbd VL_mk VL2_mk If_t If_f If_not If_and If_or If_dt If_df If_et If_ef If_ne Ck_t Ck_h Opt_s ld_a ld_c lm_a lm_c renL ren keepR renA idxM invL getObs mapOb renOb allNone putAll fzR fzO fz fzL fzOb fzB frzOk upFrom mapR resOne resA cellsOf oneA oneAL isP isPL okSt kRows kParts fillA setAt bor bor0 bor1 bor2 borC borI key0 key1 key2 keysA fillM cellsM cellM unif ptrA ifOk kPartsM getObsM allNoneM zipU scal0 scalar eqC evNil evNilF memK keyX hideM xbor scal1 scalX scalOb bndA mkMag showM lendV hideV hideR hideOb hideL hideO showL backO noneO mapA List.map_cons List.map_nil List.cons_append List.nil_append List.append_nil List.drop_zero List.drop_succ_cons List.drop_nil List.take_succ_cons List.take_zero List.take_nil List.length_cons List.length_nil List.length_map List.getElem?_map Option.map_some Option.map_none Int.toNat_natCast Int.toNat_zero Int.toNat_one Int.natCast_nonneg List.flatMap_cons List.flatMap_nil List.all_cons List.all_nil List.any_cons List.any_nil Bool.or_false Bool.false_or Bool.or_true Bool.true_or Bool.and_true Bool.true_and Bool.and_false Bool.false_and Bool.not_true Bool.not_false beq_self_eq_true nb_self all_nil List.forall_mem_cons tk_map tk_app bs_self bs_dec bq_t bq_f Bool.not_not decide_true decide_false Bool.not_not and_self and_true true_and eq_self List.reverse_cons List.reverse_nil List.getElem?_cons_zero List.getElem?_cons_succ cond_true cond_false List.set_cons_zero List.set_cons_succ Nat.zero_add Nat.add_zero if_true if_false ite_true ite_false implies_true wrap64 wrap8
open Go.Bits
set_option linter.unusedVariables false
set_option linter.unusedSimpArgs false
set_option maxRecDepth 10000
set_option maxHeartbeats 2000000
theorem setObs_eq {n : Nat} {bs : List Bool} (h : bs.length = n) : setObs bs = [.box [.int .i64 (n : Int), .hs 1 0 0 (nw n)], .arr 0 1 (encWs bs)] := by subst h; rfl
theorem New' (n : Int) (hn : n < 1000000000) : Ctr Tryz.prog 30 [.int .i64 n] [] (retO [.ref 0 0] [.box [.int .i64 (n.toNat : Int), .hs 1 0 0 (nw n.toNat)], .arr 0 1 (encWs (noneB n.toNat))]) := by
 have := C30 n hn
 rwa [setObs_eq noneB_len] at this
theorem each' {fn : Nat} {g : Nat → Nat → Nat} {f : Bool → Bool → Bool} (W : WordF fn g f) {n m : Nat} {bs os : List Bool} (h : bs.length = n) (h2 : os.length = m) (hl : n < 2 ^ 62) (hl2 : m < 2 ^ 62) :
  Ctr Tryz.prog 57 [.ref 0 0, .rp [.int .i64 (m : Int), .sl (encWs os)], .fn fn []] [.box [.int .i64 (n : Int), .hs 1 0 0 (nw n)], .arr 0 1 (encWs bs)] (retO [.bool (two f bs os != bs)] [.box [.int .i64 (n : Int), .hs 1 0 0 (nw n)], .arr 0 1 (encWs (two f bs os))]) := by
 have := C57 W bs os (by omega) (by omega)
 rwa [setObs_eq h, setObs_eq (n := n) (by rw [two_len]; exact h), h2] at this
theorem scalW (bs : List Bool) : ((encWs bs).all fun c => c.all scal1) = true := by
 rw [List.all_eq_true]
 intro x hx
 rw [List.all_eq_true]
 intro y hy
 obtain ⟨w, _, rfl⟩ := List.mem_map.1 hx
 simp only [encW, List.mem_singleton] at hy
 subst hy
 rfl
theorem C35 {n m : Nat} {bs os : List Bool} (h : bs.length = n) (h2 : os.length = m) (hl : n < 2 ^ 62) (hl2 : m < 2 ^ 62) :
  Ctr Tryz.prog 35 [.ref 0 0, .rp [.int .i64 (m : Int), .sl (encWs os)]] [.box [.int .i64 (n : Int), .hs 1 0 0 (nw n)], .arr 0 1 (encWs bs)] (retO [.bool (two (fun x y => x || y) bs os != bs)] [.box [.int .i64 (n : Int), .hs 1 0 0 (nw n)], .arr 0 1 (encWs (two (fun x y => x || y) bs os))]) := by
 apply ctr_b A35_ok rfl (Nat.le_of_ble_eq_true rfl)
 unfold A35
 simp only [initL, Nat.reduceAdd]
 simp -implicitDefEqProofs (disch := omega) only [↓reduceIte, go_sem, reduceToNat, reduceAdd, reduceLeDiff, reduceEqDiff, reduceSub, reduceMul, reduceCtorEq]
 refine callD (each' W58 h h2 hl hl2) ?_
 simp -implicitDefEqProofs (disch := omega) only [↓reduceIte, go_sem, reduceToNat, reduceAdd, reduceLeDiff, reduceEqDiff, reduceSub, reduceMul, reduceCtorEq]
 exact ⟨rfl, rfl⟩
def encZ (i : Int) : List AV := [.int .i64 i]
end
section
open Go Go.AM Go.Proofs Go.RowKit
open Go.Shelf Go.Proofs.YtgbmneoeggdaoaaGreatDoor
open Go.Bits
set_option linter.unusedVariables false
set_option linter.unusedSimpArgs false
attribute [local go_sem] Oper.semAt_some
def fromW (ws : Nat → Nat) (m k : Nat) : List Nat := (List.range' k (m - k)).flatMap fun k => (onesW (ws k)).map (64 * k + ·)
theorem fromW_end (ws : Nat → Nat) (m : Nat) : fromW ws m m = [] := by simp [fromW]
theorem fromW_succ (ws : Nat → Nat) {m k : Nat} (h : k < m) : fromW ws m k = (onesW (ws k)).map (64 * k + ·) ++ fromW ws m (k + 1) := by
 unfold fromW
 rw [show m - k = (m - (k + 1)) + 1 by omega, List.range'_succ, List.flatMap_cons]
set_option maxRecDepth 100000 in
set_option maxHeartbeats 2000000 in
theorem walk_core (l Bs bo b off m cap : Nat) (sa : Option Addr) (ha : 0 < m → sa = some ⟨b, off, none⟩) (ws : Nat → Nat) (hm : m < 1000000000) (hw : ∀ k, ws k < 2 ^ 64) (T : List Nat) (hT : T = fromW ws m 0) (J : Nat → World → Prop) (Jx : World → Prop)
  (hI : ∀ k W W', J k W → Idle W W' → J k W')
  (hV : ∀ k W, J k W → W.cell? ⟨Bs, bo + 1, none⟩ = some (.slice sa m cap) ∧ ∀ j, j < m → W.cell? ⟨b, off + j, none⟩ = some (.int .u64 (ws j : Int)))
  (hZ : ∀ k W (w : Nat), J k W → w ≠ 0 → w < 2 ^ 64 → CallsIn Fence.wide 0 Tryz.prog 103 #[.int .u64 (w : Int)] W fun e W' => e = .returned (.int .i64 (tz w : Int)) ∧ Idle W W')
  (hY : ∀ k (x : Nat) W, T[k]? = some x → J k W → YieldAt Fence.wide 0 Tryz.prog l #[.int .i64 (x : Int)] W fun e W' => (e = .returned (.bool true) ∧ J (k + 1) W') ∨ (e = .returned (.bool false) ∧ Jx W'))
  (W : World) (h0 : J 0 W) :
  CallsIn Fence.wide 0 Tryz.prog 94 #[.pointer (some ⟨Bs, bo, none⟩), .func (.yield l) #[] #[]] W fun e W' => (∃ v, e = .returned v) ∧ (J T.length W' ∨ Jx W') := by
 refine callsIn_of_wp Tryz.func94 rfl trivial ?_ rfl
 simp only [Tryz.ntmps94, List.size_toArray, List.length_cons, List.length_nil, Nat.reduceAdd, Nat.reduceSub, Array.replicate_succ, Array.replicate_zero, List.push_toArray, List.append_toArray, List.nil_append, List.cons_append]
 obtain ⟨hbs, hcs⟩ := hV 0 W h0
 gi_wp2
 gi_loopw [11] (fun i wr => ∃ k j : Nat, k ≤ m ∧ i = .int .i64 k ∧ J j wr ∧ j ≤ T.length ∧ T.drop j = fromW ws m k)
  (fun i _ => m - (intOf i).toNat)
 case atStart => exact ⟨0, 0, Nat.zero_le _, rfl, h0, Nat.zero_le _, hT⟩
 case round =>
  obtain ⟨k, j, hk, rfl, hJs, hj, hd⟩ := hrel
  by_cases hlt : k < m
  ·obtain rfl := ha (by omega)
   obtain ⟨hb2, hc2⟩ := hV j wr hJs
   have c0 := hc2 k hlt
   rw [fromW_succ ws hlt] at hd
   gi_wp2
   gi_loopw [5] (fun i wr => ∃ w j : Nat, i = .int .u64 (w : Int) ∧ w < 2 ^ 64 ∧ J j wr ∧ j ≤ T.length ∧ T.drop j = (onesW w).map (64 * k + ·) ++ fromW ws m (k + 1))
    (fun i _ => (intOf i).toNat)
   case atStart => exact ⟨ws k, j, rfl, hw k, hJs, hj, hd⟩
   case round =>
    obtain ⟨w, j2, rfl, hwl, hJ2, hj2, hd2⟩ := hrel
    by_cases hz : w = 0
    ·subst hz
     rw [onesW_zero] at hd2
     gi_wp2
     refine ⟨⟨k + 1, j2, by omega, by simp, hJ2, hj2, hd2⟩, ?_⟩
     simp [intOf]
     omega
    ·have hne : ((w : Int) != 0) = true := by simp [hz]
     have hcall := hZ j2 _ w hJ2 hz hwl
     rw [onesW_cons w hz hwl] at hd2
     gi_wp2
     refine ⟨trivial, rfl, hcall.mono ?_⟩
     rintro e W2 ⟨rfl, hidle⟩
     have hJ3 := hI j2 _ _ hJ2 hidle
     have hT2 : T[j2]? = some (64 * k + tz w) := by
      have := congrArg (·[0]?) hd2
      simpa using this
     have hjl := (List.getElem?_eq_some_iff.1 hT2).1
     have hd3 : T.drop (j2 + 1) = (onesW (w &&& (w - 1))).map (64 * k + ·) ++ fromW ws m (k + 1) := by
      rw [← List.drop_drop, hd2]
      rfl
     have hY2 := hY j2 _ W2 hT2 hJ3
     have htz : tz w < 64 := (tz_spec 64 w hz hwl).1
     rw [show ((64 * k + tz w : Nat) : Int) = (k : Int) * 64 + (tz w : Int) by omega] at hY2
     obtain ⟨fn, tmps, assign, body, hy, hR⟩ := hY2
     have hlw := andlt w hz
     gi_wp2
     refine ⟨rfl, hR.mono ?_⟩
     rintro e W3 (⟨rfl, hJ4⟩ | ⟨rfl, hJx⟩)
     ·gi_wp2
      have hband := bits_and_u64_nat w (w - 1) (by omega) (by omega)
      rw [show ((w - 1 : Nat) : Int) = (w : Int) - 1 by omega] at hband
      rw [hband]
      refine ⟨⟨w &&& (w - 1), j2 + 1, rfl, by omega, hJ4, hjl, hd3⟩, ?_⟩
      simp only [intOf, Int.toNat_natCast]
      exact hlw
     ·gi_wp2
      refine bodyPost_ret (results_none rfl _ _ _) rfl ?_
      exact ⟨⟨_, rfl⟩, .inr hJx⟩
  ·obtain rfl : k = m := by omega
   rw [fromW_end] at hd
   have hjl : j = T.length := by
    have := congrArg List.length hd
    simp at this
    omega
   subst hjl
   gi_wp2
   go_end0
   exact ⟨⟨_, rfl⟩, .inl hJs⟩
theorem ctr_int {P : Program} {f : Nat} {args : List AV} {vs : List Value} {W : World} {k : IntKind} {n : Int} (h : Ctr P f args [] (ret [.int k n])) (hr : RepPL (fun b o => W.cell? ⟨b, o, none⟩) args vs) (hg : Glob (fun b o => W.cell? ⟨b, o, none⟩)) :
  CallsIn Fence.wide 0 P f vs.toArray W fun e W' => e = .returned (.int k n) ∧ Idle W W' := by
 obtain ⟨_, h⟩ := h
 let V : View := fun b o => W.cell? ⟨b, o, none⟩
 let G : Ctx := fun _ => none
 have hs : Sat W V G.owns V G W (fun k => ([] : List Ob)[k]?) := {
  keep := ⟨rfl, rfl, rfl, Nat.le_refl _, fun _ _ _ => rfl⟩
  view := fun b o v h => h
  vle := V.le_refl
  vnew := fun _ _ _ => rfl
  obs := fun k ob e => by simp at e
  dom := fun k s e => by cases e
  priv := fun k s b e => by cases e
  inj := fun k k' s s' b e => by cases e
  loc := fun k s b e => by cases e
  glob := hg }
 refine callsIn_wide.2 ((h V G W vs hs (RepPL.rep G hr)).mono fun e W' hh => ?_)
 obtain ⟨V', G', v, res, obs', ⟨rfl, rfl⟩, rfl, hv, _, hs'⟩ := hh
 refine ⟨?_, ?_⟩
 ·have : v = .int k n := by simpa only [RepRes, Rep, RepP] using hv
  rw [this]
 ·obtain ⟨k1, k2, k3, k4, k5⟩ := hs'.keep
  refine ⟨k1, k2, k3, k4, fun b o e hb => ?_⟩
  rw [k5 b (Array.getElem?_eq_some_iff.1 e).1 (by rintro ⟨k, s, e, _⟩; cases e)]
  exact e
theorem ones_from {n : Nat} {bs : List Bool} (h : bs.length = n) : ones bs = fromW (wordAt bs) (nw n) 0 := by
 rw [ones_words, h, List.range_eq_range']
 rfl
def onesZ (bs : List Bool) : List (List AV) := (ones bs).map fun (i : Nat) => encZ (i : Int)
theorem I94 {n : Nat} {bs : List Bool} (h : bs.length = n) (hn : n < 1000000000) : IterM Tryz.prog 94 [.rp [.int .i64 (n : Int), .sl (encWs bs)]] (onesZ bs) := by
 unfold onesZ
 refine ⟨by kernel_rfl, fun V pvs cvs hg hp hc => ?_⟩
 have hlen : (encWs bs).length = nw n := by rw [encWs_len, h]
 simp only [RepPL, RepP, RepC] at hp hc
 subst hc
 obtain ⟨v, r, rfl, ⟨b0, o0, rfl, ⟨⟨u0, hu0, rfl, _⟩, ⟨u, hu, ⟨a, cap, rfl, hcap, hx⟩, _⟩, _⟩⟩, rfl⟩ := hp
 rw [hlen] at hu hcap
 refine ⟨(ones bs).map fun (i : Nat) => #[.int .i64 (i : Int)], by simp, fun k x v hk hv => ?_, ?_⟩
 ·obtain ⟨i, hi, rfl⟩ : ∃ i : Nat, (ones bs)[k]? = some i ∧ encZ (i : Int) = x := by simpa using hk
  have : #[Value.int .i64 (i : Int)] = v := by simpa [hi] using hv
  subst this
  simp only [RepPL, RepP, encZ]
  exact ⟨_, _, rfl, rfl, rfl⟩
 ·intro W lw J Jx hI1 hI2 hV hY h0
  rw [List.length_map]
  obtain ⟨b, off, hab⟩ : ∃ b off, (0 < nw n → a = some ⟨b, off, none⟩ ∧ ∀ j, j < nw n → V b (off + j) = some (.int .u64 (wordAt bs j : Int))) := by
   by_cases hz : 0 < nw n
   ·rcases hx with hx | ⟨b, off, esz, rfl, hr⟩
    ·rw [← hlen, hx] at hz
     simp at hz
    ·have hne : (encWs bs) ≠ [] := fun e => by rw [← hlen, e] at hz; simp at hz
     have he : esz = 1 := hr.esz_of (n := 1) (fun c hc => by obtain ⟨s, _, rfl⟩ := List.mem_map.1 hc; rfl) hne
     subst he
     refine ⟨b, off, fun _ => ⟨rfl, fun j hj => ?_⟩⟩
     obtain ⟨_, hc⟩ := hr.get (i := j) (encWs_get bs (by rw [h]; exact hj))
     simp only [RepC, RepP] at hc
     obtain ⟨⟨v0, g0, rfl, _⟩, _⟩ := hc
     rw [Nat.mul_one] at g0
     exact g0
   ·exact ⟨0, 0, fun h => absurd h hz⟩
  have := walk_core lw b0 o0 b off (nw n) cap a (fun hz => (hab hz).1) (wordAt bs) (by unfold nw; omega) (fun k => chunk_lt bs k) (ones bs) (ones_from h) J Jx hI1
   (fun k W hJ => ⟨hV k W hJ _ _ _ hu, fun j hj => hV k W hJ _ _ _ ((hab (by omega)).2 j hj)⟩)
   (fun k W w hJ hw0 hwl => ?_) (fun k x W hx hJ => ?_) W h0
  ·simpa using this
  ·have hc := C103 w hwl
   rw [if_neg hw0] at hc
   exact ctr_int (vs := [.int .u64 (w : Int)]) hc (by simp only [RepPL, RepP]; exact ⟨_, _, rfl, rfl, rfl⟩) (hg.mono (fun b o v e => hV k W hJ b o v e))
  ·exact hY k _ W (by rw [List.getElem?_map, hx]; rfl) hJ
end
section
open Go Go.AM Go.Proofs
open Nat (reduceAdd reduceLeDiff reduceEqDiff reduceSub reduceMul)
open Int (reduceToNat)
attribute [local go_sem ↓] w_skip w_lbl w_ops w_draw w_pre w_post w_alt w_seq w_cond w_block w_join w_loop w_exit w_ret w_scope w_rfunc l_nil l_cons th_n th_e th_r bk_n bk_r bk_e t_nil t_it t_call t_callg i_nil i_one i_grp s_nil s_cons c_call c_callg e_rar e_dynB e_mv e_nil e_dyn e_nilb e_frz o_mov o_bin o_eq o_un o_conv o_len o_slen o_idx o_aix o_fad o_load o_store o_boxp o_boxo o_boxm o_alloc o_allocm o_alloca o_nilarr o_build o_bslp o_bslo o_slc o_sslc o_slc3 o_sidx o_mkfn o_mkmv o_calle o_bslr o_ridx o_rload o_rapp o_vidx o_ext o_pick o_callf o_callb o_appd o_clear o_mxn o_field o_nilc o_make o_makeb o_buildm o_boxg o_mkif o_tass o_eqs o_callo o_callx k_int k_str k_bool k_grb k_grt k_some k_none k_rar k_arr k_lens k_lenf k_lenh k_lenb k_idxb k_idxs k_idxf k_idxh k_ld k_loadp k_loadr k_loade k_storer k_storee k_oin k_ois k_slcs k_slcf k_slch k_slc3s k_slc3f k_slc3h k_app2 k_apps k_appf k_apph k_cals k_cald k_cali k_cnb k_cna k_esn k_esc k_efn k_efc k_esh b_add b_sub b_mul b_quo b_rem b_and b_or b_xor b_andNot b_eql b_neq b_lss b_leq b_gtr b_geq b_shl b_shr b_seq b_sne b_slt b_sad q_bool q_str q_nil q_nilf u_not u_neg u_xor f_ret f_nor v_r v_c v_g v_reg v_ob v_set v_put v_so v_sn v_pn v_pc g_nil d_nil p_nil m_mv m_fr z_nil z_cons z_an z_ac g_cons d_cons p_cons y_mov y_bin y_eq y_un y_conv y_len y_slen y_idx y_aix y_fad y_load y_store y_boxp y_boxo y_boxm y_alloc y_alloca y_allocm y_nilarr y_build y_bslp y_bslo y_slc y_sslc y_slc3 y_sidx y_mkfn y_ext y_pick y_callf y_callb y_appd y_clear y_mxn y_field y_nilc y_make y_makeb y_buildm y_boxg y_mkif y_tass y_eqs y_callo y_mkmv y_callx y_vidx y_bslr y_ridx y_rload y_rapp y_calle nb_if
attribute [local go_sem] nbd VL_mk VL2_mk If_t If_f If_not If_and If_or If_dt If_df If_et If_ef If_ne Ck_t Ck_h Opt_s ld_a ld_c lm_a lm_c renL ren keepR renA idxM invL getObs mapOb renOb allNone putAll fzR fzO fz fzL fzOb fzB frzOk upFrom mapR resOne resA cellsOf oneA oneAL isP isPL okSt kRows kParts fillA setAt bor bor0 bor1 bor2 borC borI key0 key1 key2 keysA fillM cellsM cellM unif ptrA ifOk kPartsM getObsM allNoneM zipU scal0 scalar eqC evNil evNilF memK keyX hideM xbor scal1 scalX scalOb bndA mkMag showM lendV hideV hideR hideOb hideL hideO showL backO noneO mapA List.map_cons List.map_nil List.cons_append List.nil_append List.append_nil List.drop_zero List.drop_succ_cons List.drop_nil List.take_succ_cons List.take_zero List.take_nil List.length_cons List.length_nil List.length_map List.getElem?_map Option.map_some Option.map_none Int.toNat_natCast Int.toNat_zero Int.toNat_one Int.natCast_nonneg List.flatMap_cons List.flatMap_nil List.all_cons List.all_nil List.any_cons List.any_nil Bool.or_false Bool.false_or Bool.or_true Bool.true_or Bool.and_true Bool.true_and Bool.and_false Bool.false_and Bool.not_true Bool.not_false beq_self_eq_true nb_self all_nil List.forall_mem_cons tk_map tk_app bs_self bs_dec bq_t bq_f Bool.not_not decide_true decide_false Bool.not_not and_self and_true true_and eq_self List.reverse_cons List.reverse_nil List.getElem?_cons_zero List.getElem?_cons_succ cond_true cond_false List.set_cons_zero List.set_cons_succ Nat.zero_add Nat.add_zero if_true if_false ite_true ite_false implies_true wrap64 wrap8
open Go.Bits
set_option linter.unusedVariables false
set_option linter.unusedSimpArgs false
set_option maxRecDepth 10000
set_option maxHeartbeats 2000000
def onesI (bs : List Bool) : List Int := (ones bs).map fun (i : Nat) => (i : Int)
theorem onesZ_eq (bs : List Bool) : onesZ bs = (onesI bs).map encZ := by
 simp only [onesZ, onesI, List.map_map]
 rfl
theorem onesI_len (bs : List Bool) : (onesI bs).length = (ones bs).length := by simp [onesI]
theorem ones_le (bs : List Bool) : (ones bs).length ≤ bs.length := by
 unfold ones
 have := List.length_filter_le (fun i => bs.getD i false) (List.range bs.length)
 rwa [List.length_range] at this
theorem C66 {n : Nat} (ws : List (List AV)) : Ctr Tryz.prog 66 [.rp [.int .i64 (n : Int), .sl ws]] [] (ret [.mfn 94 [.rp [.int .i64 (n : Int), .sl ws]]]) := by
 apply ctr_b A66_ok rfl (Nat.le_of_ble_eq_true rfl)
 unfold A66
 simp only [initL, Nat.reduceAdd]
 simp -implicitDefEqProofs (disch := omega) only [↓reduceIte, go_sem, reduceToNat, reduceAdd, reduceLeDiff, reduceEqDiff, reduceSub, reduceMul, reduceCtorEq]
 exact ⟨rfl, rfl⟩
end
end Go.Proofs.YtgbmneoeggdaoaaGreatDoor.X
