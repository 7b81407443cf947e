/- The library's sort and compaction of numbers. -/
import Derived.Test.YtgbmneoeggdaoaaDoorXg
import Derived.Test.YtgbmneoeggdaoaaDoorXaso
import Derived.Shelf.Sort.Plain
import Derived.Test.YtgbmneoeggdaoaaDoorXe
namespace Go.Proofs.YtgbmneoeggdaoaaDoor.X
open Go Go.AM Go.Proofs
attribute [local go_sem ↓] w_skip w_lbl w_ops w_draw w_pre w_post w_alt w_seq w_cond w_block w_join w_loop w_exit w_ret w_scope w_rfunc l_nil l_cons th_n th_e th_r bk_n bk_r bk_e t_nil t_it t_call t_callg i_nil i_one i_grp s_nil s_cons c_call c_callg e_rar e_dynB e_mv e_nil e_dyn e_nilb e_frz o_mov o_bin o_eq o_un o_conv o_len o_slen o_idx o_aix o_fad o_load o_store o_boxp o_boxo o_boxm o_alloc o_allocm o_alloca o_nilarr o_build o_bslp o_bslo o_slc o_sslc o_slc3 o_sidx o_mkfn o_mkmv o_calle o_bslr o_ridx o_rload o_rapp o_vidx o_ext o_pick o_callf o_callb o_appd o_clear o_mxn o_field o_nilc o_make o_makeb o_buildm o_boxg o_mkif o_tass o_eqs o_callo o_callx k_int k_str k_bool k_grb k_grt k_some k_none k_rar k_arr k_lens k_lenf k_lenh k_lenb k_idxb k_idxs k_idxf k_idxh k_ld k_loadp k_loadr k_loade k_storer k_storee k_oin k_ois k_slcs k_slcf k_slch k_slc3s k_slc3f k_slc3h k_app2 k_apps k_appf k_apph k_cals k_cald k_cali k_cnb k_cna k_esn k_esc k_efn k_efc k_esh b_add b_sub b_mul b_quo b_rem b_and b_or b_xor b_andNot b_eql b_neq b_lss b_leq b_gtr b_geq b_shl b_shr b_seq b_sne b_slt b_sad q_bool q_str q_nil q_nilf u_not u_neg u_xor f_ret f_nor v_r v_c v_g v_reg v_ob v_set v_put v_so v_sn v_pn v_pc g_nil d_nil p_nil m_mv m_fr z_nil z_cons z_an z_ac g_cons d_cons p_cons y_mov y_bin y_eq y_un y_conv y_len y_slen y_idx y_aix y_fad y_load y_store y_boxp y_boxo y_boxm y_alloc y_alloca y_allocm y_nilarr y_build y_bslp y_bslo y_slc y_sslc y_slc3 y_sidx y_mkfn y_ext y_pick y_callf y_callb y_appd y_clear y_mxn y_field y_nilc y_make y_makeb y_buildm y_boxg y_mkif y_tass y_eqs y_callo y_mkmv y_callx y_vidx y_bslr y_ridx y_rload y_rapp y_calle nb_if
attribute [local go_sem] nbd VL_mk VL2_mk If_t If_f If_not If_and If_or If_dt If_df If_et If_ef If_ne Ck_t Ck_h Opt_s ld_a ld_c lm_a lm_c renL ren keepR renA idxM invL getObs mapOb renOb allNone putAll fzR fzO fz fzL fzOb fzB frzOk upFrom mapR resOne resA cellsOf oneA oneAL isP isPL okSt kRows kParts fillA setAt bor bor0 bor1 bor2 borC borI key0 key1 key2 keysA fillM cellsM cellM unif ptrA ifOk kPartsM getObsM allNoneM zipU scal0 scalar eqC evNil evNilF memK keyX hideM xbor scal1 scalX scalOb bndA mkMag showM lendV hideV hideR hideOb hideL hideO showL backO noneO mapA List.map_cons List.map_nil List.cons_append List.nil_append List.append_nil List.drop_zero List.drop_succ_cons List.drop_nil List.take_succ_cons List.take_zero List.take_nil List.length_cons List.length_nil List.length_map List.getElem?_map Option.map_some Option.map_none Int.toNat_natCast Int.toNat_zero Int.toNat_one Int.natCast_nonneg List.flatMap_cons List.flatMap_nil List.all_cons List.all_nil List.any_cons List.any_nil Bool.or_false Bool.false_or Bool.or_true Bool.true_or Bool.and_true Bool.true_and Bool.and_false Bool.false_and Bool.not_true Bool.not_false beq_self_eq_true nb_self all_nil List.forall_mem_cons tk_map tk_app bs_self bs_dec bq_t bq_f Bool.not_not decide_true decide_false Bool.not_not and_self and_true true_and eq_self List.reverse_cons List.reverse_nil List.getElem?_cons_zero List.getElem?_cons_succ cond_true cond_false List.set_cons_zero List.set_cons_succ Nat.zero_add Nat.add_zero if_true if_false ite_true ite_false implies_true wrap64 wrap8
open Go.Bits
set_option linter.unusedVariables false
set_option linter.unusedSimpArgs false
set_option maxRecDepth 10000
set_option maxHeartbeats 1000000
def ren189 : Go.Shelf.Ren := ⟨fun | 189 => 21 | 125 => 47 | 257 => 46 | 128 => 79 | 129 => 80 | 294 => 70 | 295 => 71 | 296 => 72 | 297 => 73 | 298 => 74 | 299 => 75 | 216 => 76 | 300 => 77 | 301 => 78 | 328 => 93 | 329 => 94 | 330 => 95 | 331 => 96 | 332 => 97 | 215 => 98 | 343 => 101 | n => n, fun | 28 => 33 | 3 => 3 | 46 => 91 | 0 => 0 | 51 => 122 | 53 => 101 | 4 => 4 | 183 => 115 | 182 => 114 | 131 => 85 | 5 => 5 | 9 => 9 | 218 => 131 | 222 => 135 | 228 => 137 | 229 => 82 | n => n, fun x => x⟩
theorem lays189 : Lays.n189 Tryd.prog ren189 where
 mixed := by kernel_rfl
 f125 := Eq.trans Tryd.func47 (congrArg some (by kernel_rfl))
 f128 := Eq.trans Tryd.func79 (congrArg some (by kernel_rfl))
 f129 := Eq.trans Tryd.func80 (congrArg some (by kernel_rfl))
 f189 := Eq.trans Tryd.func21 (congrArg some (by kernel_rfl))
 f215 := Eq.trans Tryd.func98 (congrArg some (by kernel_rfl))
 f216 := Eq.trans Tryd.func76 (congrArg some (by kernel_rfl))
 f257 := Eq.trans Tryd.func46 (congrArg some (by kernel_rfl))
 f294 := Eq.trans Tryd.func70 (congrArg some (by kernel_rfl))
 f295 := Eq.trans Tryd.func71 (congrArg some (by kernel_rfl))
 f296 := Eq.trans Tryd.func72 (congrArg some (by kernel_rfl))
 f297 := Eq.trans Tryd.func73 (congrArg some (by kernel_rfl))
 f298 := Eq.trans Tryd.func74 (congrArg some (by kernel_rfl))
 f299 := Eq.trans Tryd.func75 (congrArg some (by kernel_rfl))
 f300 := Eq.trans Tryd.func77 (congrArg some (by kernel_rfl))
 f301 := Eq.trans Tryd.func78 (congrArg some (by kernel_rfl))
 f328 := Eq.trans Tryd.func93 (congrArg some (by kernel_rfl))
 f329 := Eq.trans Tryd.func94 (congrArg some (by kernel_rfl))
 f330 := Eq.trans Tryd.func95 (congrArg some (by kernel_rfl))
 f331 := Eq.trans Tryd.func96 (congrArg some (by kernel_rfl))
 f332 := Eq.trans Tryd.func97 (congrArg some (by kernel_rfl))
 f343 := Eq.trans Tryd.func101 (congrArg some (by kernel_rfl))
 t0 := Tryd.underlying0
 a0 := Tryd.isAgg0
 z0 := Tryd.sizeOf0
 v0 := Tryd.zeroValue0
 t3 := Tryd.underlying3
 a3 := Tryd.isAgg3
 z3 := Tryd.sizeOf3
 v3 := Tryd.zeroValue3
 t4 := Tryd.underlying4
 a4 := Tryd.isAgg4
 z4 := Tryd.sizeOf4
 v4 := Tryd.zeroValue4
 t5 := Tryd.underlying5
 a5 := Tryd.isAgg5
 z5 := Tryd.sizeOf5
 v5 := Tryd.zeroValue5
 t9 := Tryd.underlying9
 a9 := Tryd.isAgg9
 z9 := Tryd.sizeOf9
 v9 := Tryd.zeroValue9
 t28 := Tryd.underlying33
 a28 := Tryd.isAgg33
 z28 := Tryd.sizeOf33
 v28 := Tryd.zeroValue33
 t46 := Tryd.underlying91
 a46 := Tryd.isAgg91
 z46 := Tryd.sizeOf91
 v46 := Tryd.zeroValue91
 t51 := Tryd.underlying122
 a51 := Tryd.isAgg122
 z51 := Tryd.sizeOf122
 v51 := Tryd.zeroValue122
 t53 := Tryd.underlying101
 a53 := Tryd.isAgg101
 z53 := Tryd.sizeOf101
 v53 := Tryd.zeroValue101
 t131 := Tryd.underlying85
 a131 := Tryd.isAgg85
 z131 := Tryd.sizeOf85
 v131 := Tryd.zeroValue85
 t182 := Tryd.underlying114
 a182 := Tryd.isAgg114
 z182 := Tryd.sizeOf114
 v182 := Tryd.zeroValue114
 t183 := Tryd.underlying115
 a183 := Tryd.isAgg115
 z183 := Tryd.sizeOf115
 v183 := Tryd.zeroValue115
 t218 := Tryd.underlying131
 a218 := Tryd.isAgg131
 z218 := Tryd.sizeOf131
 v218 := Tryd.zeroValue131
 t222 := Tryd.underlying135
 a222 := Tryd.isAgg135
 z222 := Tryd.sizeOf135
 v222 := Tryd.zeroValue135
 t228 := Tryd.underlying137
 a228 := Tryd.isAgg137
 z228 := Tryd.sizeOf137
 v228 := Tryd.zeroValue137
 t229 := Tryd.underlying82
 a229 := Tryd.isAgg82
 z229 := Tryd.sizeOf82
 v229 := Tryd.zeroValue82
theorem len64_0 : Ctr Tryd.prog 80 [.int .u64 0] [] (ret [.int .i64 0]) := by
 apply ctr_b A80_ok rfl (Nat.le_of_ble_eq_true rfl)
 unfold A80
 simp only [initL, Nat.reduceAdd]
 simp -implicitDefEqProofs (maxSteps := 2000000) (disch := omega) only [↓reduceIte, go_sem, Int.reduceToNat, Nat.reduceAdd, Nat.reduceLeDiff, Nat.reduceEqDiff, Nat.reduceSub, Nat.reduceMul, reduceCtorEq]
 refine optL (m := (0 : UInt8)) (by kernel_rfl) ?_
 simp -implicitDefEqProofs (maxSteps := 2000000) (disch := omega) only [↓reduceIte, go_sem, Int.reduceToNat, Nat.reduceAdd, Nat.reduceLeDiff, Nat.reduceEqDiff, Nat.reduceSub, Nat.reduceMul, reduceCtorEq]
 exact ⟨by simp; decide, rfl⟩
theorem wrapU {x : Int} (h0 : 0 ≤ x) (h1 : x < 18446744073709551616) : IntKind.u64.wrap x = x := by
 show x % 2 ^ 64 = x
 omega
theorem len0 : Ctr Tryd.prog 47 [.int .u64 0] [] (ret [.int .i64 0]) := by
 apply ctr_b A47_ok rfl (Nat.le_of_ble_eq_true rfl)
 unfold A47
 simp only [initL, Nat.reduceAdd]
 simp -implicitDefEqProofs (maxSteps := 2000000) (disch := omega) only [↓reduceIte, go_sem, Int.reduceToNat, Nat.reduceAdd, Nat.reduceLeDiff, Nat.reduceEqDiff, Nat.reduceSub, Nat.reduceMul, reduceCtorEq]
 refine callL len64_0 ?_
 simp -implicitDefEqProofs (maxSteps := 2000000) (disch := omega) only [↓reduceIte, go_sem, Int.reduceToNat, Nat.reduceAdd, Nat.reduceLeDiff, Nat.reduceEqDiff, Nat.reduceSub, Nat.reduceMul, reduceCtorEq]
 exact ⟨rfl, rfl⟩
theorem insN (v : Nat) : Ctr Tryd.prog 70 [.hs 0 v 0 0, .int .i64 0, .int .i64 0] [.arr v 1 []] (retO [] [.arr v 1 []]) := by
 apply ctr_b A70_ok rfl (Nat.le_of_ble_eq_true rfl)
 unfold A70
 simp only [initL, Nat.reduceAdd]
 simp -implicitDefEqProofs (maxSteps := 2000000) (disch := omega) only [↓reduceIte, go_sem, Int.reduceToNat, Nat.reduceAdd, Nat.reduceLeDiff, Nat.reduceEqDiff, Nat.reduceSub, Nat.reduceMul, reduceCtorEq]
 refine loopL (σ := Unit) (fun s => ⟨[(0, .hs 0 v 0 0), (1, .int .i64 0), (2, .int .i64 0), (6, .int .i64 1)], [(0, .arr v 1 [])]⟩) (fun s => True) (fun s => 0) () (by simp -implicitDefEqProofs (maxSteps := 2000000) (disch := omega) only [↓reduceIte, go_sem, Int.reduceToNat, Nat.reduceAdd, Nat.reduceLeDiff, Nat.reduceEqDiff, Nat.reduceSub, Nat.reduceMul, reduceCtorEq]; rfl) trivial ?_
 intro _ _
 simp -implicitDefEqProofs (maxSteps := 2000000) (disch := omega) only [↓reduceIte, go_sem, Int.reduceToNat, Nat.reduceAdd, Nat.reduceLeDiff, Nat.reduceEqDiff, Nat.reduceSub, Nat.reduceMul, reduceCtorEq]
 exact ⟨rfl, rfl⟩
theorem pdqN (v : Nat) : Ctr Tryd.prog 46 [.hs 0 v 0 0, .int .i64 0, .int .i64 0, .int .i64 0] [.arr v 1 []] (retO [] [.arr v 1 []]) := by
 apply ctr_b A46_ok rfl (Nat.le_of_ble_eq_true rfl)
 unfold A46
 simp only [initL, Nat.reduceAdd]
 simp -implicitDefEqProofs (maxSteps := 2000000) (disch := omega) only [↓reduceIte, go_sem, Int.reduceToNat, Nat.reduceAdd, Nat.reduceLeDiff, Nat.reduceEqDiff, Nat.reduceSub, Nat.reduceMul, reduceCtorEq]
 refine loopL (σ := Unit) (fun s => ⟨[(0, .hs 0 v 0 0), (1, .int .i64 0), (2, .int .i64 0), (3, .int .i64 0), (8, .bool true), (9, .bool true)], [(0, .arr v 1 [])]⟩) (fun s => True) (fun s => 0) () (by simp -implicitDefEqProofs (maxSteps := 2000000) (disch := omega) only [↓reduceIte, go_sem, Int.reduceToNat, Nat.reduceAdd, Nat.reduceLeDiff, Nat.reduceEqDiff, Nat.reduceSub, Nat.reduceMul, reduceCtorEq]) trivial ?_
 intro _ _
 simp -implicitDefEqProofs (maxSteps := 2000000) (disch := omega) only [↓reduceIte, go_sem, Int.reduceToNat, Nat.reduceAdd, Nat.reduceLeDiff, Nat.reduceEqDiff, Nat.reduceSub, Nat.reduceMul, reduceCtorEq]
 refine callO (insN v) ?_
 rintro _ _ ⟨rfl, rfl⟩
 simp -implicitDefEqProofs (maxSteps := 2000000) (disch := omega) only [↓reduceIte, go_sem, Int.reduceToNat, Nat.reduceAdd, Nat.reduceLeDiff, Nat.reduceEqDiff, Nat.reduceSub, Nat.reduceMul, reduceCtorEq]
 exact ⟨rfl, rfl⟩
theorem sortN (v : Nat) : Ctr Tryd.prog 21 [.hs 0 v 0 0] [.arr v 1 []] (retO [] [.arr v 1 []]) := by
 have h40 := len0
 apply ctr_b A21_ok rfl (Nat.le_of_ble_eq_true rfl)
 unfold A21
 simp only [initL, Nat.reduceAdd]
 simp -implicitDefEqProofs (maxSteps := 2000000) (disch := omega) only [↓reduceIte, go_sem, Int.reduceToNat, Nat.reduceAdd, Nat.reduceLeDiff, Nat.reduceEqDiff, Nat.reduceSub, Nat.reduceMul, reduceCtorEq, wrapU]
 refine callL h40 ?_
 simp -implicitDefEqProofs (maxSteps := 2000000) (disch := omega) only [↓reduceIte, go_sem, Int.reduceToNat, Nat.reduceAdd, Nat.reduceLeDiff, Nat.reduceEqDiff, Nat.reduceSub, Nat.reduceMul, reduceCtorEq]
 refine callO (pdqN v) ?_
 rintro _ _ ⟨rfl, rfl⟩
 simp -implicitDefEqProofs (maxSteps := 2000000) (disch := omega) only [↓reduceIte, go_sem, Int.reduceToNat, Nat.reduceAdd, Nat.reduceLeDiff, Nat.reduceEqDiff, Nat.reduceSub, Nat.reduceMul, reduceCtorEq]
 exact ⟨rfl, rfl⟩
/-- slices.Sort of numbers. -/
theorem sortC (v : Nat) (zs : List Int) (hl : zs.length < 1000000) : Ctr Tryd.prog 21 [.hs 0 v 0 zs.length] [.arr v 1 (zs.map encN)] (retO [] [.arr v 1 ((zs.mergeSort leI).map encN)]) := by
 by_cases h : zs = []
 ·subst h
  have e : ([] : List Int).mergeSort leI = [] := by simp
  rw [e]
  exact sortN v
 ·exact ctr_sort1 (by kernel_rfl) (fun blk off cap zs w h1 h2 h3 => Any.slices_Sort_int lays189 blk off cap zs w h1 h2 h3) v zs h hl
def cpt : List Int → List Int
 | [] => []
 | [x] => [x]
 | x :: y :: l => if x = y then cpt (y :: l) else x :: cpt (y :: l)
theorem cpt_head : ∀ (x : Int) (l : List Int), cpt (x :: l) = x :: (cpt (x :: l)).tail
 | x, [] => rfl
 | x, y :: l => by
  rw [cpt]
  split
  ·rename_i h
   rw [cpt_head y l, h]
   rfl
  ·rfl
theorem cpt_len : ∀ {l : List Int}, (cpt l).length ≤ l.length
 | [] => Nat.le_refl _
 | [x] => Nat.le_refl _
 | x :: y :: l => by
  have := cpt_len (l := y :: l)
  rw [cpt]
  split
  ·simp only [List.length_cons] at this ⊢; omega
  ·simp only [List.length_cons] at this ⊢; omega
theorem drop_bangI {l : List Int} {i : Nat} (h : i < l.length) : l.drop i = l[i]! :: l.drop (i + 1) := by
 rw [List.drop_eq_getElem_cons h]
 simp [h]
theorem cpt_drop {z : List Int} {q : Nat} (h1 : 0 < q) (h2 : q < z.length) : cpt (z.drop (q - 1)) = if z[q - 1]! = z[q]! then cpt (z.drop q) else z[q - 1]! :: cpt (z.drop q) := by
 have e1 := drop_bangI (l := z) (i := q - 1) (by omega)
 have e2 := drop_bangI h2
 rw [show q - 1 + 1 = q by omega] at e1
 rw [e1, e2, cpt]
/-- What the array holds when a list has been compacted: the tail is zero. -/
def cpR (z : List Int) : List (List AV) := (cpt z).map encN ++ List.replicate (z.length - (cpt z).length) [.int .i64 0]
theorem cpR_same {z : List Int} (h : cpt z = z) : cpR z = z.map encN := by rw [cpR, h, Nat.sub_self]; simp
theorem enc_getA {l : List Int} {i : Nat} (h : i < l.length) : Option.map encN l[i]? = some [.int .i64 l[i]!] := by simp [h, encN]
theorem C22 (v : Nat) (z : List Int) (hl : z.length < 1000000) : Ctr Tryd.prog 22 [.hs 0 v 0 z.length] [.arr v 1 (z.map encN)] (retO [.hs 0 v 0 (cpt z).length] [.arr v 1 (cpR z)]) := by
 apply ctr_b A22_ok rfl (Nat.le_of_ble_eq_true rfl)
 unfold A22
 simp only [initL, Nat.reduceAdd]
 simp -implicitDefEqProofs (maxSteps := 2000000) (disch := omega) only [↓reduceIte, go_sem, Int.reduceToNat, Nat.reduceAdd, Nat.reduceLeDiff, Nat.reduceEqDiff, Nat.reduceSub, Nat.reduceMul, reduceCtorEq]
 refine ifD (fun g => ?_) (fun g => ?_)
 ·have hz : cpt z = z := by
   match z, g with
   | [], _ => rfl
   | [x], _ => rfl
   | x :: y :: l, g => simp at g; omega
  simp -implicitDefEqProofs (maxSteps := 2000000) (disch := omega) only [↓reduceIte, go_sem, Int.reduceToNat, Nat.reduceAdd, Nat.reduceLeDiff, Nat.reduceEqDiff, Nat.reduceSub, Nat.reduceMul, reduceCtorEq]
  rw [cpR_same hz, hz]
  exact ⟨rfl, rfl⟩
 ·simp -implicitDefEqProofs (maxSteps := 2000000) (disch := omega) only [↓reduceIte, go_sem, Int.reduceToNat, Nat.reduceAdd, Nat.reduceLeDiff, Nat.reduceEqDiff, Nat.reduceSub, Nat.reduceMul, reduceCtorEq]
  refine loopL (σ := Nat) (fun k => ⟨[(0, .hs 0 v 0 z.length), (3, .int .i64 k)], [(0, .arr v 1 (z.map encN))]⟩)
   (fun k => 1 ≤ k ∧ k ≤ z.length ∧ cpt z = z.take (k - 1) ++ cpt (z.drop (k - 1))) (fun k => z.length - k) 1 (by simp -implicitDefEqProofs (maxSteps := 2000000) (disch := omega) only [↓reduceIte, go_sem, Int.reduceToNat, Nat.reduceAdd, Nat.reduceLeDiff, Nat.reduceEqDiff, Nat.reduceSub, Nat.reduceMul, reduceCtorEq]; rfl) ⟨Nat.le_refl _, by omega, rfl⟩ ?_
  rintro k ⟨h1, h2, h3⟩
  simp -implicitDefEqProofs (maxSteps := 2000000) (disch := omega) only [↓reduceIte, go_sem, Int.reduceToNat, Nat.reduceAdd, Nat.reduceLeDiff, Nat.reduceEqDiff, Nat.reduceSub, Nat.reduceMul, reduceCtorEq]
  refine ifD (fun c => ?_) (fun c => ?_)
  ·have hk : k < z.length := by omega
   have hg := enc_getA hk
   have hg2 := enc_getA (show k - 1 < z.length by omega)
   have t1 : ((k : Int) - 1).toNat = k - 1 := by omega
   rw [cpt_drop (by omega) hk] at h3
   have htk : z.take k = z.take (k - 1) ++ [z[k - 1]!] := by
    have : k = (k - 1) + 1 := by omega
    rw [this, List.take_add_one, Nat.add_sub_cancel]
    simp [show k - 1 < z.length by omega]
   simp -implicitDefEqProofs (maxSteps := 2000000) (disch := omega) only [↓reduceIte, go_sem, Int.reduceToNat, Nat.reduceAdd, Nat.reduceLeDiff, Nat.reduceEqDiff, Nat.reduceSub, Nat.reduceMul, reduceCtorEq, hg, hg2, t1]
   refine accL (by kernel_rfl) ?_
   simp -implicitDefEqProofs (maxSteps := 2000000) (disch := omega) only [↓reduceIte, go_sem, Int.reduceToNat, Nat.reduceAdd, Nat.reduceLeDiff, Nat.reduceEqDiff, Nat.reduceSub, Nat.reduceMul, reduceCtorEq, hg, hg2, t1]
   refine ifE (fun e => ?_) (fun e => ?_)
   ·rw [if_pos e.symm] at h3
    have h3' : cpt z = z.take k ++ (cpt (z.drop k)).tail := by
     rw [h3, htk, List.append_assoc]
     congr 1
     have := cpt_head z[k]! (z.drop (k + 1))
     rw [← drop_bangI hk] at this
     rw [this, e]
     rfl
    simp -implicitDefEqProofs (maxSteps := 2000000) (disch := omega) only [↓reduceIte, go_sem, Int.reduceToNat, Nat.reduceAdd, Nat.reduceLeDiff, Nat.reduceEqDiff, Nat.reduceSub, Nat.reduceMul, reduceCtorEq]
    refine loopL (σ := (Nat × Nat) × List Int) (fun s => ⟨[(0, .hs 0 v 0 z.length), (3, .int .i64 s.1.1), (4, .hs 0 v k (z.length - k)), (5, .int .i64 s.1.2)], [(0, .arr v 1 (s.2.map encN))]⟩)
     (fun s => 1 ≤ s.1.2 ∧ k + s.1.2 ≤ z.length ∧ k ≤ s.1.1 ∧ s.1.1 ≤ k + s.1.2 - 1 ∧ s.2.length = z.length ∧ cpt z = s.2.take s.1.1 ++ (cpt (z.drop (k + s.1.2 - 1))).tail ∧ ∀ j, k + s.1.2 - 1 ≤ j → s.2[j]! = z[j]!) (fun s => z.length - s.1.2) ((k, 1), z) (by simp -implicitDefEqProofs (maxSteps := 2000000) (disch := omega) only [↓reduceIte, go_sem, Int.reduceToNat, Nat.reduceAdd, Nat.reduceLeDiff, Nat.reduceEqDiff, Nat.reduceSub, Nat.reduceMul, reduceCtorEq]; rfl)
     ⟨by simp, by simp only; omega, by simp, by simp, rfl, by simpa using h3', fun j _ => rfl⟩ ?_
    rintro ⟨⟨k1, k2⟩, A⟩ ⟨q1, q2, q3, q4, q5, q6, q7⟩
    simp only at q1 q2 q3 q4 q5 q6 q7
    simp -implicitDefEqProofs (maxSteps := 2000000) (disch := omega) only [↓reduceIte, go_sem, Int.reduceToNat, Nat.reduceAdd, Nat.reduceLeDiff, Nat.reduceEqDiff, Nat.reduceSub, Nat.reduceMul, reduceCtorEq]
    refine ifD (fun c2 => ?_) (fun c2 => ?_)
    ·have hq : k + k2 < z.length := by omega
     have g1 := enc_getA (l := A) (show k + k2 < A.length by omega)
     have g2 := enc_getA (l := A) (show k + (k2 - 1) < A.length by omega)
     have t2 : ((k2 : Int) - 1).toNat = k2 - 1 := by omega
     rw [cpt_drop (q := k + k2) (by omega) hq] at q6
     have v1 := q7 (k + k2) (by omega)
     have v2 := q7 (k + k2 - 1) (Nat.le_refl _)
     rw [show k + (k2 - 1) = k + k2 - 1 by omega] at g2
     have t3 : k + (k2 - 1) = k + k2 - 1 := by omega
     rw [v1] at g1
     rw [v2] at g2
     have hset : ∀ x : Int, (A.map encN).set k1 [.int .i64 x] = (A.set k1 x).map encN := fun x => by rw [List.map_set]; rfl
     simp -implicitDefEqProofs (maxSteps := 2000000) (disch := omega) only [↓reduceIte, go_sem, Int.reduceToNat, Nat.reduceAdd, Nat.reduceLeDiff, Nat.reduceEqDiff, Nat.reduceSub, Nat.reduceMul, reduceCtorEq, g1, g2, t2, t3]
     refine accL (by kernel_rfl) ?_
     simp -implicitDefEqProofs (maxSteps := 2000000) (disch := omega) only [↓reduceIte, go_sem, Int.reduceToNat, Nat.reduceAdd, Nat.reduceLeDiff, Nat.reduceEqDiff, Nat.reduceSub, Nat.reduceMul, reduceCtorEq, g1, g2, t2, t3]
     refine ifE (fun e2 => ?_) (fun e2 => ?_)
     ·rw [if_pos e2.symm] at q6
      simp -implicitDefEqProofs (maxSteps := 2000000) (disch := omega) only [↓reduceIte, go_sem, Int.reduceToNat, Nat.reduceAdd, Nat.reduceLeDiff, Nat.reduceEqDiff, Nat.reduceSub, Nat.reduceMul, reduceCtorEq]
      exact ⟨((k1, k2 + 1), A), by simp, ⟨by simp, by simp only; omega, q3, by simp only; omega, q5, by simpa using q6, fun j hj => q7 j (by simp only at hj; omega)⟩, by simp only; omega⟩
     ·rw [if_neg (fun h => e2 h.symm)] at q6
      have gk := enc_getA (l := A) (show k1 < A.length by omega)
      simp -implicitDefEqProofs (maxSteps := 2000000) (disch := omega) only [↓reduceIte, go_sem, Int.reduceToNat, Nat.reduceAdd, Nat.reduceLeDiff, Nat.reduceEqDiff, Nat.reduceSub, Nat.reduceMul, reduceCtorEq, g1, g2, t2, t3, gk, hset]
      refine ⟨((k1 + 1, k2 + 1), A.set k1 z[k + k2]!), by simp, ⟨by simp, by simp only; omega, by simp only; omega, by simp only; omega, by simp only [List.length_set]; exact q5, ?_, fun j hj => ?_⟩, by simp only; omega⟩
      ·have hh := cpt_head z[k + k2]! (z.drop (k + k2 + 1))
       rw [← drop_bangI hq] at hh
       have e5 : (A.set k1 z[k + k2]!).take (k1 + 1) = A.take k1 ++ [z[k + k2]!] := by
        rw [List.take_add_one, List.take_set_of_le (Nat.le_refl _)]
        simp [show k1 < A.length by omega]
       simp only [show k + (k2 + 1) - 1 = k + k2 by omega]
       rw [e5, q6, List.tail_cons, List.append_assoc]
       congr 1
      ·simp only at hj
       have := q7 j (by omega)
       rw [← this]
       by_cases hjl : j < A.length
       ·simp [hjl, List.getElem_set, show k1 ≠ j by omega]
       ·simp [hjl]
    ·have hk2 : k + k2 = z.length := by omega
     have hend : cpt z = A.take k1 := by
      have : z.drop (k + k2 - 1) = [z[k + k2 - 1]!] := by
       rw [drop_bangI (by omega), List.drop_eq_nil_of_le (by omega)]
      rw [q6, this]
      simp [cpt]
     have hlen : (cpt z).length = k1 := by rw [hend, List.length_take]; omega
     simp -implicitDefEqProofs (maxSteps := 2000000) (disch := omega) only [↓reduceIte, go_sem, Int.reduceToNat, Nat.reduceAdd, Nat.reduceLeDiff, Nat.reduceEqDiff, Nat.reduceSub, Nat.reduceMul, reduceCtorEq]
     have hdr : (A.map encN).drop (k1 + (z.length - k1)) = [] := List.drop_eq_nil_of_le (by simp; omega)
     have hcr : cpR z = (A.map encN).take k1 ++ List.replicate (z.length - k1) [.int .i64 0] := by rw [cpR, hlen, hend, List.map_take]
     rw [hdr, hcr, hlen, List.append_nil]
     exact ⟨rfl, rfl⟩
   ·rw [if_neg (fun h => e h.symm)] at h3
    simp -implicitDefEqProofs (maxSteps := 2000000) (disch := omega) only [↓reduceIte, go_sem, Int.reduceToNat, Nat.reduceAdd, Nat.reduceLeDiff, Nat.reduceEqDiff, Nat.reduceSub, Nat.reduceMul, reduceCtorEq]
    refine ⟨k + 1, by simp, ⟨by omega, by omega, ?_⟩, by omega⟩
    rw [h3, Nat.add_sub_cancel, htk]
    simp
  ·have hz : cpt z = z := by
    have : z.drop (k - 1) = [z[k - 1]!] := by
     rw [drop_bangI (by omega), List.drop_eq_nil_of_le (by omega)]
    rw [h3, this]
    show z.take (k - 1) ++ [z[k - 1]!] = z
    rw [← this, List.take_append_drop]
   simp -implicitDefEqProofs (maxSteps := 2000000) (disch := omega) only [↓reduceIte, go_sem, Int.reduceToNat, Nat.reduceAdd, Nat.reduceLeDiff, Nat.reduceEqDiff, Nat.reduceSub, Nat.reduceMul, reduceCtorEq]
   rw [cpR_same hz, hz]
   exact ⟨rfl, rfl⟩
/- The graph's ways out; the sets of live.New in work. -/
theorem gList0 (S P : List (List Nat)) (i : Nat) (r : List Nat) (hi : i < S.length) (hP : S[i]? = some r) (hr : r.length < 1000000) : Ctr Tryd.prog 51 [grP S P, .int .i64 (i : Int), .int .i64 0] [] (ret [.sl (r.map encK)]) := by
 apply ctr_b A51_ok rfl (Nat.le_of_ble_eq_true rfl)
 unfold A51
 simp only [initL, Nat.reduceAdd, grP, encRows]
 have h0 : decide ((i : Int) < 0) = false := decide_eq_false (by omega)
 simp -implicitDefEqProofs (maxSteps := 2000000) (disch := omega) only [↓reduceIte, go_sem, Int.reduceToNat, Nat.reduceAdd, Nat.reduceLeDiff, Nat.reduceEqDiff, Nat.reduceSub, Nat.reduceMul, reduceCtorEq, h0]
 refine callL (C85 S P) ?_
 have h1 : decide ((i : Int) ≥ (S.length : Int)) = false := decide_eq_false (by omega)
 simp -implicitDefEqProofs (maxSteps := 2000000) (disch := omega) only [↓reduceIte, go_sem, Int.reduceToNat, Nat.reduceAdd, Nat.reduceLeDiff, Nat.reduceEqDiff, Nat.reduceSub, Nat.reduceMul, reduceCtorEq, h0, h1, hP, encRow]
 refine callL (C86 r hr) ?_
 simp -implicitDefEqProofs (maxSteps := 2000000) (disch := omega) only [↓reduceIte, go_sem, Int.reduceToNat, Nat.reduceAdd, Nat.reduceLeDiff, Nat.reduceEqDiff, Nat.reduceSub, Nat.reduceMul, reduceCtorEq]
 refine accL (by kernel_rfl) ?_
 simp -implicitDefEqProofs (maxSteps := 2000000) (disch := omega) only [↓reduceIte, go_sem, Int.reduceToNat, Nat.reduceAdd, Nat.reduceLeDiff, Nat.reduceEqDiff, Nat.reduceSub, Nat.reduceMul, reduceCtorEq]
 exact ⟨rfl, rfl⟩
theorem C27 (S P : List (List Nat)) (i : Nat) (r : List Nat) (hi : i < S.length) (hP : S[i]? = some r) (hr : r.length < 1000000) : Ctr Tryd.prog 27 [grP S P, .int .i64 (i : Int)] [] (ret [.sl (r.map encK)]) := by
 apply ctr_b A27_ok rfl (Nat.le_of_ble_eq_true rfl)
 unfold A27
 simp only [initL, Nat.reduceAdd]
 have hg : isP (grP S P) = true := rfl
 simp -implicitDefEqProofs (maxSteps := 2000000) (disch := omega) only [↓reduceIte, go_sem, Int.reduceToNat, Nat.reduceAdd, Nat.reduceLeDiff, Nat.reduceEqDiff, Nat.reduceSub, Nat.reduceMul, reduceCtorEq, hg]
 refine callL (gList0 S P i r hi hP hr) ?_
 simp -implicitDefEqProofs (maxSteps := 2000000) (disch := omega) only [↓reduceIte, go_sem, Int.reduceToNat, Nat.reduceAdd, Nat.reduceLeDiff, Nat.reduceEqDiff, Nat.reduceSub, Nat.reduceMul, reduceCtorEq]
 exact ⟨rfl, rfl⟩
/-- The names of block i's sets: in (box, words), out (box, words). -/
def nmA (i : Nat) : Nat := 2000000 + 4 * i
def bxS (n k : Nat) : Ob := .box [.int .i64 (n : Int), .hs (k + 1) 0 0 (nw n)]
def wdS (s : List Bool) : Ob := .arr 0 1 (encWs s)
def objsL (n : Nat) : Nat → List (List Bool × List Bool) → List (Nat × Ob)
 | _, [] => []
 | i, (a, b) :: r => (nmA i, bxS n (nmA i)) :: (nmA i + 1, wdS a) :: (nmA i + 2, bxS n (nmA i + 2)) :: (nmA i + 3, wdS b) :: objsL n (i + 1) r
def pickS (n k : Nat) (x : List Bool × List Bool) : Ob := if k % 4 = 0 then bxS n k else if k % 4 = 1 then wdS x.1 else if k % 4 = 2 then bxS n k else wdS x.2
theorem optA_objsL {n : Nat} : ∀ {L : List (List Bool × List Bool)} {i k : Nat}, optA (objsL n i L) k = if nmA i ≤ k then (L[(k - 2000000) / 4 - i]?).map (pickS n k) else none
 | [], i, k => by simp [objsL, optA]
 | (a, b) :: r, i, k => by
  have ih := optA_objsL (n := n) (L := r) (i := i + 1) (k := k)
  have hne : ∀ j, j ≠ k → Nat.beq j k = false := fun j h => by
   cases e : Nat.beq j k with
   | true => exact absurd (Nat.eq_of_beq_eq_true e) h
   | false => rfl
  have hz : k / 4 = 500000 + i → (k - 2000000) / 4 - i = 0 := fun h => by omega
  simp only [objsL, optA]
  by_cases h0 : k = nmA i
  ·subst h0
   rw [Nat.beq_refl]
   simp only [cond_true]
   rw [if_pos (Nat.le_refl _), hz (by unfold nmA; omega)]
   simp only [List.getElem?_cons_zero, Option.map_some, pickS]
   rw [if_pos (by unfold nmA; omega)]
  ·rw [hne _ (fun e => h0 e.symm)]
   by_cases h1 : k = nmA i + 1
   ·subst h1
    rw [Nat.beq_refl]
    simp only [cond_true, cond_false]
    rw [if_pos (by omega), hz (by unfold nmA; omega)]
    simp only [List.getElem?_cons_zero, Option.map_some, pickS]
    rw [if_neg (by unfold nmA; omega), if_pos (by unfold nmA; omega)]
   ·rw [hne _ (fun e => h1 e.symm)]
    by_cases h2 : k = nmA i + 2
    ·subst h2
     rw [Nat.beq_refl]
     simp only [cond_true, cond_false]
     rw [if_pos (by omega), hz (by unfold nmA; omega)]
     simp only [List.getElem?_cons_zero, Option.map_some, pickS]
     rw [if_neg (by unfold nmA; omega), if_neg (by unfold nmA; omega), if_pos (by unfold nmA; omega)]
    ·rw [hne _ (fun e => h2 e.symm)]
     by_cases h3 : k = nmA i + 3
     ·subst h3
      rw [Nat.beq_refl]
      simp only [cond_true, cond_false]
      rw [if_pos (by omega), hz (by unfold nmA; omega)]
      simp only [List.getElem?_cons_zero, Option.map_some, pickS]
      rw [if_neg (by unfold nmA; omega), if_neg (by unfold nmA; omega), if_neg (by unfold nmA; omega)]
     ·rw [hne _ (fun e => h3 e.symm)]
      simp only [cond_false]
      rw [ih]
      unfold nmA at *
      by_cases h : 2000000 + 4 * i ≤ k
      ·rw [if_pos (by omega), if_pos h, show (k - 2000000) / 4 - i = ((k - 2000000) / 4 - (i + 1)) + 1 by omega, List.getElem?_cons_succ]
      ·rw [if_neg (by omega), if_neg h]
theorem ob_at {n : Nat} {L : List (List Bool × List Bool)} {i j : Nat} {x : List Bool × List Bool} (h : L[i]? = some x) (hj : j < 4) : optA (objsL n 0 L) (nmA i + j) = some (pickS n (nmA i + j) x) := by
 rw [optA_objsL, if_pos (by unfold nmA; omega), show (nmA i + j - 2000000) / 4 - 0 = i by unfold nmA; omega, h]
 rfl
theorem ob_inB {n : Nat} {L : List (List Bool × List Bool)} {i : Nat} {a b : List Bool} (h : L[i]? = some (a, b)) : optA (objsL n 0 L) (nmA i) = some (bxS n (nmA i)) := by
 have := ob_at (n := n) h (j := 0) (by omega)
 rw [Nat.add_zero] at this
 rw [this, pickS, if_pos (by unfold nmA; omega)]
theorem ob_inW {n : Nat} {L : List (List Bool × List Bool)} {i : Nat} {a b : List Bool} (h : L[i]? = some (a, b)) : optA (objsL n 0 L) (nmA i + 1) = some (wdS a) := by
 rw [ob_at (n := n) h (j := 1) (by omega), pickS, if_neg (by unfold nmA; omega), if_pos (by unfold nmA; omega)]
theorem ob_outB {n : Nat} {L : List (List Bool × List Bool)} {i : Nat} {a b : List Bool} (h : L[i]? = some (a, b)) : optA (objsL n 0 L) (nmA i + 2) = some (bxS n (nmA i + 2)) := by
 rw [ob_at (n := n) h (j := 2) (by omega), pickS, if_neg (by unfold nmA; omega), if_neg (by unfold nmA; omega), if_pos (by unfold nmA; omega)]
theorem ob_outW {n : Nat} {L : List (List Bool × List Bool)} {i : Nat} {a b : List Bool} (h : L[i]? = some (a, b)) : optA (objsL n 0 L) (nmA i + 3) = some (wdS b) := by
 rw [ob_at (n := n) h (j := 3) (by omega), pickS, if_neg (by unfold nmA; omega), if_neg (by unfold nmA; omega), if_neg (by unfold nmA; omega)]
theorem ob_low {n k : Nat} {L : List (List Bool × List Bool)} (h : k < 2000000) : optA (objsL n 0 L) k = none := by
 rw [optA_objsL, if_neg (by unfold nmA; omega)]
theorem ob_high {n k : Nat} {L : List (List Bool × List Bool)} (h : nmA L.length ≤ k) : optA (objsL n 0 L) k = none := by
 rw [optA_objsL]
 split
 ·rw [List.getElem?_eq_none (by unfold nmA at h; omega)]
  rfl
 ·rfl
theorem ob_upIn {n k : Nat} {L : List (List Bool × List Bool)} {i : Nat} {a b a' : List Bool} (h : L[i]? = some (a, b)) : optA (objsL n 0 (L.set i (a', b))) k = if k = nmA i + 1 then some (wdS a') else optA (objsL n 0 L) k := by
 have hi := (List.getElem?_eq_some_iff.1 h).1
 by_cases e : k = nmA i + 1
 ·rw [if_pos e, e]
  exact ob_inW (by rw [List.getElem?_set_self hi])
 ·rw [if_neg e, optA_objsL, optA_objsL]
  by_cases c : nmA 0 ≤ k
  ·rw [if_pos c, if_pos c]
   by_cases d : (k - 2000000) / 4 - 0 = i
   ·rw [d, List.getElem?_set_self hi, h]
    simp only [Option.map_some, pickS]
    rw [if_neg (c := k % 4 = 1) (by unfold nmA at *; omega), if_neg (c := k % 4 = 1) (by unfold nmA at *; omega)]
   ·rw [List.getElem?_set_ne (fun q => d q.symm)]
  ·rw [if_neg c, if_neg c]
theorem ob_upOut {n k : Nat} {L : List (List Bool × List Bool)} {i : Nat} {a b b' : List Bool} (h : L[i]? = some (a, b)) : optA (objsL n 0 (L.set i (a, b'))) k = if k = nmA i + 3 then some (wdS b') else optA (objsL n 0 L) k := by
 have hi := (List.getElem?_eq_some_iff.1 h).1
 by_cases e : k = nmA i + 3
 ·rw [if_pos e, e]
  exact ob_outW (by rw [List.getElem?_set_self hi])
 ·rw [if_neg e, optA_objsL, optA_objsL]
  by_cases c : nmA 0 ≤ k
  ·rw [if_pos c, if_pos c]
   by_cases d : (k - 2000000) / 4 - 0 = i
   ·rw [d, List.getElem?_set_self hi, h]
    simp only [Option.map_some, pickS]
    by_cases m0 : k % 4 = 0
    ·rw [if_pos m0, if_pos m0]
    ·rw [if_neg m0, if_neg m0]
     by_cases m1 : k % 4 = 1
     ·rw [if_pos m1, if_pos m1]
     ·rw [if_neg m1, if_neg m1, if_pos (by unfold nmA at *; omega), if_pos (by unfold nmA at *; omega)]
   ·rw [List.getElem?_set_ne (fun q => d q.symm)]
  ·rw [if_neg c, if_neg c]
/-- One set, lent. -/
theorem lend_set {μ : Nat → Option Ob} {n k w : Nat} {s : List Bool} {xs ys : List AV} {ks : List Nat} (hn : s.length = n) (h1 : μ k = some (.box [.int .i64 (n : Int), .hs (k + 1) w 0 (nw n)])) (h2 : μ (k + 1) = some (.arr w 1 (encWs s))) (h : LendL μ xs ys ks) :
  LendL μ (.ref k 0 :: xs) (setA n s :: ys) (k :: ([k + 1] ++ ks)) := by
 have e : ((encWs s).drop 0).take (nw n) = encWs s := by rw [List.drop_zero, ← hn]; exact encWs_take s
 have h3 : LendL μ [.int .i64 (n : Int), .hs (k + 1) w 0 (nw n)] [.int .i64 (n : Int), .sl (((encWs s).drop 0).take (nw n))] [k + 1] := .pure rfl (.hs h2 .nil)
 rw [e] at h3
 exact .ref (off := 0) h1 h3 rfl h
theorem lend_refs {μ : Nat → Option Ob} {n : Nat} : ∀ {ks : List Nat} {ss : List (List Bool)}, ks.length = ss.length → (∀ (i k : Nat) (s : List Bool), ks[i]? = some k → ss[i]? = some s → μ k = some (bxS n k) ∧ μ (k + 1) = some (wdS s) ∧ s.length = n) →
  ∃ kk, LendL μ (ks.map fun k => .ref k 0) (ss.map fun s => setA n s) kk
 | [], [], _, _ => ⟨_, .nil⟩
 | k :: ks, s :: ss, hl, h => by
  have ⟨kk, h1⟩ := lend_refs (ks := ks) (ss := ss) (by simpa using hl) fun i k s a b => h (i + 1) k s (by simpa using a) (by simpa using b)
  have ⟨a, b, c⟩ := h 0 k s rfl rfl
  exact ⟨_, lend_set (w := 0) c a b h1⟩
 | [], _ :: _, hl, _ => by simp at hl
 | _ :: _, [], hl, _ => by simp at hl
/- live.New$1: one block's round. -/
def refsI (m : Nat) : List AV := (List.range m).map fun i => .ref (nmA i) 0
def refsO (m : Nat) : List AV := (List.range m).map fun i => .ref (nmA i + 2) 0
/-- The Live box in work: f's cells, its points, the values, the two arrays of sets. -/
def lvB (f : Fnc) (v m vi vo k : Nat) : Ob := .box [.bool f.machine, .str f.name, .sl (f.regs.map encRg), .sl (f.params.map encO), .sl (f.blocks.map encBk), ptP f.blocks, .hs 1012 v 0 m, .hs 1013 vi 0 k, .hs 1014 vo 0 k]
def stL (f : Fnc) (v vi vo : Nat) (rg : List (List AV)) (u : List Int) (ch : Bool) (L : List (List Bool × List Bool)) : List (Nat × Ob) :=
 (3, .box [.ref 12 0]) :: (7, .pbox [.bool ch]) :: (12, lvB f v u.length vi vo L.length) :: (1012, .arr v 1 rg) :: (1013, .rarr vi (refsI L.length)) :: (1014, .rarr vo (refsO L.length)) :: objsL u.length 0 L
theorem ob_stL {f : Fnc} {v vi vo k : Nat} {rg : List (List AV)} {u : List Int} {ch : Bool} {L : List (List Bool × List Bool)} (h : 2000000 ≤ k) : optA (stL f v vi vo rg u ch L) k = optA (objsL u.length 0 L) k := by
 unfold stL
 rw [optA_ne (by omega), optA_ne (by omega), optA_ne (by omega), optA_ne (by omega), optA_ne (by omega), optA_ne (by omega)]
theorem refsI_get {m i : Nat} (h : i < m) : (refsI m)[i]? = some (.ref (nmA i) 0) := by simp [refsI, h]
theorem refsO_get {m i : Nat} (h : i < m) : (refsO m)[i]? = some (.ref (nmA i + 2) 0) := by simp [refsO, h]
theorem one_sets {n : Nat} : ∀ {ss : List (List Bool)}, oneAL (ss.map fun s => setA n s) = true
 | [] => rfl
 | s :: ss => by
  have := one_sets (n := n) (ss := ss)
  simp only [List.map_cons, oneAL, Bool.and_eq_true]
  exact ⟨rfl, this⟩
theorem setA_enc {n : Nat} : ∀ {ss : List (List Bool)}, (∀ s ∈ ss, s.length = n) → ((ss.map fun s => setA n s).map fun c => [c]) = ss.map encSet
 | [], _ => rfl
 | s :: ss, h => by
  have := setA_enc (n := n) (ss := ss) fun x hx => h x (List.mem_cons_of_mem _ hx)
  rw [List.map_cons, List.map_cons, List.map_cons, this]
  congr 1
  simp only [encSet, setA, setP, h s List.mem_cons_self]
/-- The Live in work, lent whole: what its readers see. -/
theorem lend_live {μ : Nat → Option Ob} {f : Fnc} {v vi vo : Nat} {rg : List (List AV)} {u : List Int} {L : List (List Bool × List Bool)}
  (hrg : rg.take u.length = u.map encN) (hL : ∀ x ∈ L, x.1.length = u.length ∧ x.2.length = u.length)
  (m1 : μ 12 = some (lvB f v u.length vi vo L.length)) (m2 : μ 1012 = some (.arr v 1 rg)) (m3 : μ 1013 = some (.rarr vi (refsI L.length))) (m4 : μ 1014 = some (.rarr vo (refsO L.length)))
  (m5 : ∀ i a b, L[i]? = some (a, b) → μ (nmA i) = some (bxS u.length (nmA i)) ∧ μ (nmA i + 1) = some (wdS a) ∧ μ (nmA i + 2) = some (bxS u.length (nmA i + 2)) ∧ μ (nmA i + 3) = some (wdS b)) :
  ∃ kk, LendL μ [.ref 12 0] [lvP f u (L.map (·.1)) (L.map (·.2))] kk := by
 have ⟨k1, h1⟩ := lend_refs (μ := μ) (n := u.length) (ks := (List.range L.length).map nmA) (ss := L.map (·.1)) (by simp) (by
  intro i k s hk hs
  rw [List.getElem?_map] at hk hs
  cases hx : L[i]? with
  | none => rw [hx] at hs; cases hs
  | some x =>
   have hi := (List.getElem?_eq_some_iff.1 hx).1
   rw [hx] at hs
   rw [List.getElem?_range hi] at hk
   have e1 := Option.some.inj hk
   have e2 := Option.some.inj hs
   rw [← e1, ← e2]
   have := m5 i x.1 x.2 hx
   exact ⟨this.1, this.2.1, (hL x (List.mem_of_getElem? hx)).1⟩)
 have ⟨k2, h2⟩ := lend_refs (μ := μ) (n := u.length) (ks := (List.range L.length).map fun i => nmA i + 2) (ss := L.map (·.2)) (by simp) (by
  intro i k s hk hs
  rw [List.getElem?_map] at hk hs
  cases hx : L[i]? with
  | none => rw [hx] at hs; cases hs
  | some x =>
   have hi := (List.getElem?_eq_some_iff.1 hx).1
   rw [hx] at hs
   rw [List.getElem?_range hi] at hk
   have e1 := Option.some.inj hk
   have e2 := Option.some.inj hs
   rw [← e1, ← e2]
   have := m5 i x.1 x.2 hx
   exact ⟨this.2.2.1, this.2.2.2, (hL x (List.mem_of_getElem? hx)).2⟩)
 rw [List.map_map] at h1 h2
 have e1 := setA_enc (n := u.length) (ss := L.map (·.1)) (by intro s hs; have ⟨x, hx, e⟩ := List.mem_map.1 hs; rw [← e]; exact (hL x hx).1)
 have e2 := setA_enc (n := u.length) (ss := L.map (·.2)) (by intro s hs; have ⟨x, hx, e⟩ := List.mem_map.1 hs; rw [← e]; exact (hL x hx).2)
 have t1 : (((L.map (·.1)).map fun s => setA u.length s).drop 0).take L.length = (L.map (·.1)).map fun s => setA u.length s := by rw [List.drop_zero]; exact List.take_of_length_le (by simp)
 have t2 : (((L.map (·.2)).map fun s => setA u.length s).drop 0).take L.length = (L.map (·.2)).map fun s => setA u.length s := by rw [List.drop_zero]; exact List.take_of_length_le (by simp)
 have g4 : LendL μ [.hs 1014 vo 0 L.length] _ _ := .hsr (off := 0) (len := L.length) m4 h2 one_sets .nil
 have g3 : LendL μ [.hs 1013 vi 0 L.length, .hs 1014 vo 0 L.length] _ _ := .hsr (off := 0) (len := L.length) m3 h1 one_sets g4
 have g2 : LendL μ [.hs 1012 v 0 u.length, .hs 1013 vi 0 L.length, .hs 1014 vo 0 L.length] _ _ := .hs (off := 0) (len := u.length) m2 g3
 rw [t1, t2, e1, e2, List.drop_zero, hrg] at g2
 have g1 : LendL μ [.bool f.machine, .str f.name, .sl (f.regs.map encRg), .sl (f.params.map encO), .sl (f.blocks.map encBk), ptP f.blocks, .hs 1012 v 0 u.length, .hs 1013 vi 0 L.length, .hs 1014 vo 0 L.length] _ _ := .pure rfl (.pure rfl (.pure rfl (.pure rfl (.pure rfl (.pure rfl g2)))))
 exact ⟨_, .ref (off := 0) m1 g1 rfl .nil⟩
def orS (a b : List Bool) : List Bool := two (fun x y => x || y) a b
def insAt (L : List (List Bool × List Bool)) (i : Nat) : List Bool := (L.getD i ([], [])).1
def outAt (L : List (List Bool × List Bool)) (i : Nat) : List Bool := (L.getD i ([], [])).2
/-- One set joined into another, both in work. -/
theorem or_callE {μ : Nat → Option Ob} {n a b w : Nat} {x y : List Bool} {K : KO} (hx : x.length = n) (hy : y.length = n) (hm : n < 1000000000) (h1 : μ a = some (bxS n a)) (h2 : μ (a + 1) = some (wdS x)) (h3 : μ b = some (.box [.int .i64 (n : Int), .hs (b + 1) w 0 (nw n)])) (h4 : μ (b + 1) = some (.arr w 1 (encWs y)))
  (n1 : b ≠ a) (n2 : b ≠ a + 1) (n3 : b + 1 ≠ a) (hk : ∀ acc, K (.bool (orS x y != x)) [(a, bxS n a), (a + 1, wdS (orS x y))] acc) : @CallE Tryd.prog 28 [.ref a 0, .ref b 0] μ ⟨K⟩ := by
 have hc := C28 hx hy (by omega) (by omega)
 have e1 : Nat.beq a (a + 1) = false := beq_ne (by omega)
 have e2 : Nat.beq (a + 1) a = false := beq_ne (by omega)
 have e0 : Nat.beq a a = true := Nat.beq_refl a
 have e3 : Nat.beq (a + 1) (a + 1) = true := Nat.beq_refl _
 have e4 : Nat.beq 0 1 = false := rfl
 have hh : ∀ k, k ≠ a → k ≠ a + 1 → hideM [a, a + 1] μ k = μ k := fun k c1 c2 => by
  simp only [hideM, memK, List.any_cons, List.any_nil, Bool.or_false]
  rw [beq_ne (Ne.symm c1), beq_ne (Ne.symm c2)]
  rfl
 have hl : LendL (hideM [a, a + 1] μ) [.ref b 0] [setA n y] _ := lend_set hy (by rw [hh _ n1 n2]; exact h3) (by rw [hh _ n3 (by omega)]; exact h4) .nil
 have hp : ArgL μ [a, a + 1] [.ref a 0, .ref b 0] [ren (idxM 0 [a, a + 1]) (.ref a 0), setA n y] _ := .pass (k := a) rfl (by simp) (.lend hl .nil)
 have er : ren (idxM 0 [a, a + 1]) (.ref a 0) = .ref 0 0 := by
  simp [idxM, ren, optA, e0]
  done
 rw [er] at hp
 have ho : getObsM μ [a, a + 1] = some [bxS n a, wdS x] := by simp [getObsM, h1, h2]
 have hmo : mapOb (idxM 0 [a, a + 1]) [bxS n a, wdS x] = [.box [.int .i64 (n : Int), .hs 1 0 0 (nw n)], .arr 0 1 (encWs x)] := by
  simp [mapOb, idxM, bxS, wdS, renOb, renL, ren, optA, e0, e1, e3]
  done
 have hc2 : Ctr Tryd.prog 28 [.ref 0 0, setA n y] (mapOb (idxM 0 [a, a + 1]) [bxS n a, wdS x]) (retO [.bool (orS x y != x)] [.box [.int .i64 (n : Int), .hs 1 0 0 (nw n)], .arr 0 1 (encWs (orS x y))]) := by
  rw [hmo]
  exact hc
 have hz : zipU ([a, a + 1] ++ []) (mapOb (invL (idxM 0 ([a, a + 1] ++ []))) [.box [.int .i64 (n : Int), .hs 1 0 0 (nw n)], .arr 0 1 (encWs (orS x y))]) = [(a, bxS n a), (a + 1, wdS (orS x y))] := by
  simp [mapOb, idxM, invL, zipU, bxS, wdS, renOb, renL, ren, optA, e4]
  done
 have hkk : keysOk (idxM 0 ([a, a + 1] ++ [])) = true ∧ keysOk (idxM 0 [a, a + 1]) = true := by
  simp [idxM, keysOk, pairsOk, e1, e2, e4]
  done
 have hk2 := hk (b :: ([b + 1] ++ []) ++ [], [a, a + 1] ++ [])
 rw [← hz] at hk2
 exact callE [a, a + 1] [] hkk ho rfl hp hc2 ⟨rfl, rfl, by simp only [List.all_cons, List.all_nil, Bool.and_true, Bool.and_eq_true]; exact ⟨rfl, by simp only [scalOb]; exact scalW _⟩⟩ hk2
/-- upTo on the Live in work: the copy is of two new names. -/
theorem up_callE {μ : Nat → Option Ob} {f : Fnc} {v vi vo : Nat} {rg : List (List AV)} {u : List Int} {L : List (List Bool × List Bool)} {b : Nat} {B : Blk} {x y : List Bool} {K : KO}
  (hrg : rg.take u.length = u.map encN) (hL : ∀ x ∈ L, x.1.length = u.length ∧ x.2.length = u.length)
  (m1 : μ 12 = some (lvB f v u.length vi vo L.length)) (m2 : μ 1012 = some (.arr v 1 rg)) (m3 : μ 1013 = some (.rarr vi (refsI L.length))) (m4 : μ 1014 = some (.rarr vo (refsO L.length)))
  (m5 : ∀ i a b, L[i]? = some (a, b) → μ (nmA i) = some (bxS u.length (nmA i)) ∧ μ (nmA i + 1) = some (wdS a) ∧ μ (nmA i + 2) = some (bxS u.length (nmA i + 2)) ∧ μ (nmA i + 3) = some (wdS b))
  (m6 : μ 1000000000 = none) (m7 : μ 1000000001 = none) (hs : Srt u) (hul : u.length < 1000000) (hB : f.blocks[b]? = some B) (hb : L[b]? = some (x, y)) (ha : ∀ x ∈ B.code, x.args.length ≤ 9223372036854775807) (hll : B.code.length < 1000000)
  (hk : ∀ ks, K (.ref 1000000000 0) [(1000000000, .box [.int .i64 (u.length : Int), .hs 1000000001 1 0 (nw u.length)]), (1000000001, .arr 1 1 (encWs (backS u B.code y)))] (ks, [1000000000, 1000000001])) :
  @CallE Tryd.prog 29 [.ref 12 0, .int .i64 (b : Int), .int .i64 0] μ ⟨K⟩ := by
 have hy : y.length = u.length := (hL _ (List.mem_of_getElem? hb)).2
 have hc := C29 f u (L.map (·.1)) (L.map (·.2)) u.length b 0 B y hs hul hy (by omega) hB (by rw [List.getElem?_map, hb]; rfl) (Nat.zero_le _) ha hll
 rw [List.drop_zero] at hc
 have ⟨kk, hl⟩ := lend_live hrg hL m1 m2 m3 m4 m5
 have hp : ArgL μ [] [.ref 12 0, .int .i64 (b : Int), .int .i64 0] [lvP f u (L.map (·.1)) (L.map (·.2)), .int .i64 (b : Int), .int .i64 0] _ := .lend hl (.lend (.pure rfl .nil) (.lend (.pure rfl .nil) .nil))
 have h3 : allNoneM μ [1000000000, 1000000001] = true := by simp [allNoneM, m6, m7]
 exact callE [] [1000000000, 1000000001] ⟨by kernel_rfl, by kernel_rfl⟩ rfl h3 hp hc ⟨rfl, rfl, by simp only [setN, List.all_cons, List.all_nil, Bool.and_true, Bool.and_eq_true]; exact ⟨rfl, by simp only [scalOb]; exact scalW _⟩⟩ (hk _)
/-- Block b's out when the first ways out have been joined in. -/
def outK (L : List (List Bool × List Bool)) (r : List Nat) (b : Nat) : List Bool := r.foldl (fun o s => orS o (insAt L s)) (outAt L b)
theorem fzB_ref {k : Nat} {ob : Ob} {a : Nat → Nat} {o : Nat} : ∀ {l : List Nat}, (∀ i ∈ l, a i ≠ k) → fzL k ob (l.map fun i => .ref (a i) o) = l.map fun i => .ref (a i) o
 | [], _ => rfl
 | i :: l, h => by
  have := fzB_ref (k := k) (ob := ob) (a := a) (o := o) (l := l) fun j hj => h j (List.mem_cons_of_mem _ hj)
  simp only [List.map_cons, fzL, fz, beq_ne (h i List.mem_cons_self), cond_false, this]
/-- A set of names k, k + 1 that no one has any more is forgotten. -/
theorem dropSet {x : St} {rs : List (Nat × AV)} {objs : List (Nat × Ob)} {k w n : Nat} {s : List Bool} (h1 : x.ob k = some (.box [.int .i64 (n : Int), .hs (k + 1) w 0 (nw n)])) (h2 : x.ob (k + 1) = some (.arr w 1 (encWs s)))
  (hob : ∀ j, j ≠ k → j ≠ k + 1 → x.ob j = optA objs j) (n1 : optA objs k = none) (n2 : optA objs (k + 1) = none)
  (hfz : ∀ j o kk ob, optA objs j = some o → (kk = k ∨ kk = k + 1) → fzOb kk ob o = o)
  (hreg : ∀ p ∈ rs, x.reg p.1 = p.2) (hrf : ∀ p ∈ rs, ∀ kk ob, (kk = k ∨ kk = k + 1) → fz kk ob p.2 = p.2) : StpB k x ⟨rs, objs⟩ := by
 have a1 : StpB k x ⟨rs, x.objs⟩ := .drop .refl (reg_sub hreg) fun j => rfl
 have b1 : (⟨rs, x.objs⟩ : St).ob (k + 1) = some (.arr w 1 (encWs s)) := h2
 have a2 := a1.frz (k + 1) b1 rfl (by omega)
 have b2 : ((⟨rs, x.objs⟩ : St).frz (k + 1) (.arr w 1 (encWs s))).ob k = some (.box [.int .i64 (n : Int), .sl (((encWs s).drop 0).take (nw n))]) := by
  show optA (fzO _ _ _) k = _
  rw [fzO_ob, if_neg (by omega)]
  have h1' : optA x.objs k = _ := h1
  rw [h1']
  simp [fzOb, fzL, fz]
 have a3 := a2.frz k b2 rfl (Nat.le_refl _)
 refine a3.same ⟨fun i => ?_, fun j => ?_⟩
 ·show getA .dead (fzR _ _ (fzR _ _ rs)) i = getA .dead rs i
  rw [fzR_reg, fzR_reg]
  have hd : ∀ (l : List (Nat × AV)), (∀ p ∈ l, ∀ kk ob, (kk = k ∨ kk = k + 1) → fz kk ob p.2 = p.2) → ∀ kk ob, (kk = k ∨ kk = k + 1) → fz kk ob (getA .dead l i) = getA .dead l i := by
   intro l
   induction l with
   | nil => intro _ kk ob _; simp [getA, fz]
   | cons p l ih =>
    intro h kk ob hk
    obtain ⟨a, v⟩ := p
    simp only [getA]
    cases Nat.beq a i with
    | true => exact h (a, v) List.mem_cons_self kk ob hk
    | false => exact ih (fun p hp => h p (List.mem_cons_of_mem _ hp)) kk ob hk
  rw [hd rs hrf _ _ (.inr rfl), hd rs hrf _ _ (.inl rfl)]
 ·show optA (fzO _ _ (fzO _ _ x.objs)) j = optA objs j
  rw [fzO_ob, fzO_ob]
  by_cases e1 : j = k
  ·rw [if_pos e1, e1, n1]
  ·rw [if_neg e1]
   by_cases e2 : j = k + 1
   ·rw [if_pos e2, e2, n2]; rfl
   ·rw [if_neg e2]
    have := hob j e1 e2
    have : optA x.objs j = optA objs j := this
    rw [this]
    cases ho : optA objs j with
    | none => rfl
    | some o => simp only [Option.map_some]; rw [hfz j o _ _ ho (.inr rfl), hfz j o _ _ ho (.inl rfl)]
theorem fz_stL {f : Fnc} {v vi vo : Nat} {rg : List (List AV)} {u : List Int} {ch : Bool} {L : List (List Bool × List Bool)} (hl : L.length < 1000000) {j kk : Nat} {o ob : Ob} (h : optA (stL f v vi vo rg u ch L) j = some o) (hk : 1000000000 ≤ kk ∨ kk = 7) : fzOb kk ob o = o := by
 unfold stL at h
 simp only [optA] at h
 have nk : ∀ i, i < 1000000000 → i ≠ 7 → Nat.beq i kk = false := fun i hi h7 => beq_ne (by omega)
 cases h3 : Nat.beq 3 j with
 | true => rw [h3] at h; cases h; simp [fzOb, fzL, fz, nk]
 | false =>
 rw [h3] at h; simp only [cond_false] at h
 cases h7 : Nat.beq 7 j with
 | true => rw [h7] at h; cases h; simp [fzOb, fzL, fz, nk]
 | false =>
 rw [h7] at h; simp only [cond_false] at h
 cases h12 : Nat.beq 12 j with
 | true => rw [h12] at h; cases h; simp [lvB, ptP, fzOb, fzL, fz, nk]
 | false =>
 rw [h12] at h; simp only [cond_false] at h
 cases h1012 : Nat.beq 1012 j with
 | true => rw [h1012] at h; cases h; rfl
 | false =>
 rw [h1012] at h; simp only [cond_false] at h
 cases h1013 : Nat.beq 1013 j with
 | true =>
  rw [h1013] at h; cases h; simp only [fzOb, refsI]
  rw [fzB_ref]
  intro i hi
  have := List.mem_range.1 hi
  unfold nmA
  omega
 | false =>
 rw [h1013] at h; simp only [cond_false] at h
 cases h1014 : Nat.beq 1014 j with
 | true =>
  rw [h1014] at h; cases h; simp only [fzOb, refsO]
  rw [fzB_ref (a := fun i => nmA i + 2)]
  intro i hi
  have := List.mem_range.1 hi
  unfold nmA
  omega
 | false =>
 rw [h1014] at h; simp only [cond_false] at h
 rw [optA_objsL] at h
 by_cases hj : nmA 0 ≤ j
 ·rw [if_pos hj] at h
  cases hx : L[(j - 2000000) / 4 - 0]? with
  | none => rw [hx] at h; cases h
  | some p =>
   rw [hx] at h
   have hlt := (List.getElem?_eq_some_iff.1 hx).1
   have := Option.some.inj h
   rw [← this]
   have hjk : Nat.beq (j + 1) kk = false := beq_ne (by unfold nmA at hj; omega)
   unfold pickS
   split
   ·simp [bxS, fzOb, fzL, fz, hjk]
   ·split
    ·rfl
    ·split
     ·simp [bxS, fzOb, fzL, fz, hjk]
     ·rfl
 ·rw [if_neg hj] at h; cases h
/-- What a block's round makes of the sets, and whether it changes what is wanted at its beginning. -/
def inN (u : List Int) (B : Blk) (r : List Nat) (L : List (List Bool × List Bool)) (b : Nat) : List Bool := orS (insAt L b) (backS u B.code (outK L r b))
def stepL (u : List Int) (B : Blk) (r : List Nat) (L : List (List Bool × List Bool)) (b : Nat) : List (List Bool × List Bool) := L.set b (inN u B r L b, outK L r b)
def stepC (u : List Int) (B : Blk) (r : List Nat) (L : List (List Bool × List Bool)) (b : Nat) : Bool := inN u B r L b != insAt L b
def rndG (μ : List (Nat × Ob)) : List AV → List (Nat × Ob) → Prop := fun res objs => res = [] ∧ ∀ k, optA objs k = optA μ k
theorem C26 (f : Fnc) (v vi vo : Nat) (rg : List (List AV)) (u : List Int) (ch : Bool) (L : List (List Bool × List Bool)) (S P : List (List Nat)) (b : Nat) (B : Blk) (r : List Nat) (hb : b < S.length) (hS : S[b]? = some r) (hr : r.length < 1000000) (hrs : ∀ s ∈ r, s < L.length) (hbL : b < L.length) (hL : ∀ x ∈ L, x.1.length = u.length ∧ x.2.length = u.length) (hul : u.length < 1000000) (hrg : rg.take u.length = u.map encN) (hsr : Srt u) (hBk : f.blocks[b]? = some B) (ha : ∀ x ∈ B.code, x.args.length ≤ 9223372036854775807) (hll : B.code.length < 1000000) (hLl : L.length < 1000000) (hB : ∀ k ∈ (stL f v vi vo rg u ch L).map (·.1), k < 1000000000) :
  CtrG Tryd.prog 26 [.int .i64 (b : Int), .agg (encBk B), .rp [grP S P], .ref 3 0, .ref 7 0] (stL f v vi vo rg u ch L) (rndG (stL f v vi vo rg u (ch || stepC u B r L b) (stepL u B r L b))) := by
 have hsu := C27 S P b r hb hS hr
 apply ctr_bG A26_ok hB (Nat.le_of_ble_eq_true rfl)
 unfold A26
 have ⟨G, eG⟩ : ∃ G, grP S P = .rp G := ⟨_, rfl⟩
 rw [eG] at hsu ⊢
 simp only [initL, Nat.reduceAdd]
 simp -implicitDefEqProofs (maxSteps := 2000000) (disch := omega) only [↓reduceIte, go_sem, Int.reduceToNat, Nat.reduceAdd, Nat.reduceLeDiff, Nat.reduceEqDiff, Nat.reduceSub, Nat.reduceMul, reduceCtorEq, encBk]
 refine callL hsu ?_
 simp -implicitDefEqProofs (maxSteps := 2000000) (disch := omega) only [↓reduceIte, go_sem, Int.reduceToNat, Nat.reduceAdd, Nat.reduceLeDiff, Nat.reduceEqDiff, Nat.reduceSub, Nat.reduceMul, reduceCtorEq]
 have hok : ∀ l, (outK L l b).length = u.length := fun l => by
  have h0 : (outAt L b).length = u.length := by
   rw [outAt, List.getD_eq_getElem?_getD, List.getElem?_eq_getElem hbL]
   exact (hL _ (List.getElem_mem hbL)).2
  unfold outK
  revert h0
  generalize outAt L b = o
  intro h0
  induction l generalizing o with
  | nil => exact h0
  | cons s l ih => exact ih (orS o (insAt L s)) ((two_len _ _ _).trans h0)
 refine loopB (σ := Nat) (fun k => ⟨[(0, .int .i64 (b : Int)), (3, .ref 3 0), (4, .ref 7 0), (11, .sl (r.map encK)), (12, .int .i64 (r.length : Int)), (13, .int .i64 (k : Int))], stL f v vi vo rg u ch (L.set b (insAt L b, outK L (r.take k) b))⟩)
  (fun k => k ≤ r.length) (fun k => r.length - k) 0 ?_ (Nat.zero_le _) ?_
 ·have hL0 : L.set b (insAt L b, outK L (r.take 0) b) = L := by
   have hg : L[b]? = some (L.getD b ([], [])) := by rw [List.getD_eq_getElem?_getD, List.getElem?_eq_getElem hbL]; rfl
   apply List.ext_getElem? fun j => ?_
   by_cases e : j = b
   ·rw [e, List.getElem?_set_self hbL, hg]
    rfl
   ·rw [List.getElem?_set_ne fun q => e q.symm]
  rw [hL0]
  refine .drop .refl (reg_sub ?_) fun k => rfl
  intro p hp
  simp only [List.mem_cons, List.not_mem_nil, or_false] at hp
  rcases hp with rfl | rfl | rfl | rfl | rfl | rfl <;> (simp -implicitDefEqProofs (maxSteps := 2000000) (disch := omega) only [↓reduceIte, go_sem, Int.reduceToNat, Nat.reduceAdd, Nat.reduceLeDiff, Nat.reduceEqDiff, Nat.reduceSub, Nat.reduceMul, reduceCtorEq]; try rfl)
 ·intro k hk
  have hLk : (L.set b (insAt L b, outK L (r.take k) b)).length = L.length := List.length_set
  unfold stL
  rw [hLk]
  simp -implicitDefEqProofs (maxSteps := 2000000) (disch := omega) only [↓reduceIte, go_sem, Int.reduceToNat, Nat.reduceAdd, Nat.reduceLeDiff, Nat.reduceEqDiff, Nat.reduceSub, Nat.reduceMul, reduceCtorEq]
  refine ifD (fun c => ?_) (fun c => ?_)
  ·have hx := List.getElem?_eq_getElem (l := r) (i := k) (by omega)
   generalize r[k] = s at hx
   have hsl := hrs s (List.mem_of_getElem? hx)
   have q1 := refsI_get hsl
   have q2 := refsO_get hbL
   simp -implicitDefEqProofs (maxSteps := 2000000) (disch := omega) only [↓reduceIte, go_sem, Int.reduceToNat, Nat.reduceAdd, Nat.reduceLeDiff, Nat.reduceEqDiff, Nat.reduceSub, Nat.reduceMul, reduceCtorEq, hx, encK, lvB, q1, q2]
   have hg : (L.set b (insAt L b, outK L (r.take k) b))[b]? = some (insAt L b, outK L (r.take k) b) := List.getElem?_set_self hbL
   have ⟨y, hy⟩ : ∃ y, (L.set b (insAt L b, outK L (r.take k) b))[s]? = some (insAt L s, y) := by
    by_cases e : s = b
    ·rw [e]
     exact ⟨_, hg⟩
    ·rw [List.getElem?_set_ne fun q => e q.symm, List.getElem?_eq_getElem hsl]
     exact ⟨L[s].2, by simp [insAt, List.getD_eq_getElem?_getD, hsl]⟩
   have hol : (outK L (r.take k) b).length = u.length := hok _
   have hil : (insAt L s).length = u.length := by
    rw [insAt, List.getD_eq_getElem?_getD, List.getElem?_eq_getElem hsl]
    exact (hL _ (List.getElem_mem hsl)).1
   refine or_callE (w := 0) hol hil (by omega) ?_ ?_ ?_ ?_ (by unfold nmA; omega) (by unfold nmA; omega) (by unfold nmA; omega) fun acc => ?_
   ·show optA _ (nmA b + 2) = _
    rw [optA_ne (by unfold nmA; omega), optA_ne (by unfold nmA; omega), optA_ne (by unfold nmA; omega), optA_ne (by unfold nmA; omega), optA_ne (by unfold nmA; omega), optA_ne (by unfold nmA; omega)]
    exact ob_outB hg
   ·show optA _ (nmA b + 2 + 1) = _
    rw [optA_ne (by unfold nmA; omega), optA_ne (by unfold nmA; omega), optA_ne (by unfold nmA; omega), optA_ne (by unfold nmA; omega), optA_ne (by unfold nmA; omega), optA_ne (by unfold nmA; omega)]
    exact ob_outW hg
   ·show optA _ (nmA s) = _
    rw [optA_ne (by unfold nmA; omega), optA_ne (by unfold nmA; omega), optA_ne (by unfold nmA; omega), optA_ne (by unfold nmA; omega), optA_ne (by unfold nmA; omega), optA_ne (by unfold nmA; omega)]
    exact ob_inB hy
   ·show optA _ (nmA s + 1) = _
    rw [optA_ne (by unfold nmA; omega), optA_ne (by unfold nmA; omega), optA_ne (by unfold nmA; omega), optA_ne (by unfold nmA; omega), optA_ne (by unfold nmA; omega), optA_ne (by unfold nmA; omega)]
    exact ob_inW hy
   ·simp -implicitDefEqProofs (maxSteps := 2000000) (disch := omega) only [↓reduceIte, go_sem, Int.reduceToNat, Nat.reduceAdd, Nat.reduceLeDiff, Nat.reduceEqDiff, Nat.reduceSub, Nat.reduceMul, reduceCtorEq]
    refine accL (by simp [accsOk, pairsOk, accClash, meets, n0]) ?_
    have z1 : (nmA b = 1) = False := eq_false (by unfold nmA; omega)
    have z2 : (nmA b = 5) = False := eq_false (by unfold nmA; omega)
    have z3 : (nmA b = 10) = False := eq_false (by unfold nmA; omega)
    have z4 : (nmA b = 1010) = False := eq_false (by unfold nmA; omega)
    have z5 : (nmA b = 1011) = False := eq_false (by unfold nmA; omega)
    have z6 : (nmA b = 1012) = False := eq_false (by unfold nmA; omega)
    have z7 : (nmA b = nmA b + 1) = False := eq_false (by omega)
    have z8 : (nmA b = 0) = False := eq_false (by unfold nmA; omega)
    have z9 : (nmA b = 4) = False := eq_false (by unfold nmA; omega)
    have z10 : (nmA b = 9) = False := eq_false (by unfold nmA; omega)
    have z11 : (nmA b = 1009) = False := eq_false (by unfold nmA; omega)
    simp -implicitDefEqProofs (maxSteps := 2000000) (disch := omega) only [↓reduceIte, go_sem, Int.reduceToNat, Nat.reduceAdd, Nat.reduceLeDiff, Nat.reduceEqDiff, Nat.reduceSub, Nat.reduceMul, reduceCtorEq, z1, z2, z3, z4, z5, z6, z7, z8, z9, z10, z11]
    refine ⟨k + 1, .drop .refl (reg_sub ?_) fun j => ?_, by omega, by omega⟩
    ·intro p hp
     simp only [List.mem_cons, List.not_mem_nil, or_false] at hp
     rcases hp with rfl | rfl | rfl | rfl | rfl | rfl <;> (simp -implicitDefEqProofs (maxSteps := 2000000) (disch := omega) only [↓reduceIte, go_sem, Int.reduceToNat, Nat.reduceAdd, Nat.reduceLeDiff, Nat.reduceEqDiff, Nat.reduceSub, Nat.reduceMul, reduceCtorEq]; try rfl)
    ·have ho2 : outK L (r.take (k + 1)) b = orS (outK L (r.take k) b) (insAt L s) := by
      unfold outK
      rw [List.take_add_one, hx, Option.toList_some, List.foldl_append]
      rfl
     have hup := fun j => ob_upOut (n := u.length) (k := j) (b' := orS (outK L (r.take k) b) (insAt L s)) hg
     simp only [List.set_set] at hup
     rw [ho2, List.length_set]
     generalize objsL u.length 0 (L.set b (insAt L b, orS (outK L (r.take k) b) (insAt L s))) = O2 at hup
     have hob := ob_outB (n := u.length) hg
     generalize objsL u.length 0 (L.set b (insAt L b, outK L (r.take k) b)) = O1 at hup hob
     show optA _ j = optA _ j
     by_cases j1 : j = nmA b + 2 + 1
     ·rw [j1, optA_hit, optA_ne (by unfold nmA; omega), optA_ne (by unfold nmA; omega), optA_ne (by unfold nmA; omega), optA_ne (by unfold nmA; omega), optA_ne (by unfold nmA; omega), optA_ne (by unfold nmA; omega), hup, if_pos rfl]
     ·by_cases j2 : j = nmA b + 2
      ·rw [j2, optA_ne (by unfold nmA; omega), optA_ne (by unfold nmA; omega), optA_ne (by unfold nmA; omega), optA_ne (by unfold nmA; omega), optA_ne (by unfold nmA; omega), optA_ne (by unfold nmA; omega), hup, if_neg (by omega), hob, optA_ne (by omega), optA_hit]
      ·have hrest : optA O2 j = optA (delA (delA O1 (nmA b + 2)) (nmA b + 2 + 1)) j := by
        rw [optA_del, if_neg j1, optA_del, if_neg j2, hup, if_neg (by omega)]
       rw [optA_ne j1, optA_ne j2]
       simp only [optA, hrest]
  ·have p1 := refsI_get hbL
   simp -implicitDefEqProofs (maxSteps := 2000000) (disch := omega) only [↓reduceIte, go_sem, Int.reduceToNat, Nat.reduceAdd, Nat.reduceLeDiff, Nat.reduceEqDiff, Nat.reduceSub, Nat.reduceMul, reduceCtorEq, lvB, p1]
   rw [show k = r.length by omega, List.take_length]
   have hg : (L.set b (insAt L b, outK L r b))[b]? = some (insAt L b, outK L r b) := List.getElem?_set_self hbL
   have hL2 : ∀ x ∈ L.set b (insAt L b, outK L r b), x.1.length = u.length ∧ x.2.length = u.length := by
    intro x hx
    rcases List.mem_or_eq_of_mem_set hx with h | h
    ·exact hL x h
    ·rw [h]
     refine ⟨?_, hok r⟩
     rw [insAt, List.getD_eq_getElem?_getD, List.getElem?_eq_getElem hbL]
     exact (hL _ (List.getElem_mem hbL)).1
   have hlen : (L.set b (insAt L b, outK L r b)).length = L.length := List.length_set
   have hMs : ∀ X, (L.set b (insAt L b, outK L r b)).set b X = L.set b X := fun X => List.set_set ..
   generalize L.set b (insAt L b, outK L r b) = M at hg hL2 hlen hMs ⊢
   rw [← hlen]
   refine up_callE (v := v) (vi := vi) (vo := vo) (rg := rg) (f := f) (u := u) (L := M) (B := B) hrg hL2 rfl rfl rfl rfl (fun i a c h => ⟨?_, ?_, ?_, ?_⟩) ?_ ?_ hsr hul hBk hg ha hll fun acc => ?_
   ·show optA _ (nmA i) = _
    rw [optA_ne (by unfold nmA; omega), optA_ne (by unfold nmA; omega), optA_ne (by unfold nmA; omega), optA_ne (by unfold nmA; omega), optA_ne (by unfold nmA; omega), optA_ne (by unfold nmA; omega)]
    exact ob_inB h
   ·show optA _ (nmA i + 1) = _
    rw [optA_ne (by unfold nmA; omega), optA_ne (by unfold nmA; omega), optA_ne (by unfold nmA; omega), optA_ne (by unfold nmA; omega), optA_ne (by unfold nmA; omega), optA_ne (by unfold nmA; omega)]
    exact ob_inW h
   ·show optA _ (nmA i + 2) = _
    rw [optA_ne (by unfold nmA; omega), optA_ne (by unfold nmA; omega), optA_ne (by unfold nmA; omega), optA_ne (by unfold nmA; omega), optA_ne (by unfold nmA; omega), optA_ne (by unfold nmA; omega)]
    exact ob_outB h
   ·show optA _ (nmA i + 3) = _
    rw [optA_ne (by unfold nmA; omega), optA_ne (by unfold nmA; omega), optA_ne (by unfold nmA; omega), optA_ne (by unfold nmA; omega), optA_ne (by unfold nmA; omega), optA_ne (by unfold nmA; omega)]
    exact ob_outW h
   ·show optA _ 1000000000 = _
    rw [optA_ne (by omega), optA_ne (by omega), optA_ne (by omega), optA_ne (by omega), optA_ne (by omega), optA_ne (by omega)]
    exact ob_high (by unfold nmA; omega)
   ·show optA _ 1000000001 = _
    rw [optA_ne (by omega), optA_ne (by omega), optA_ne (by omega), optA_ne (by omega), optA_ne (by omega), optA_ne (by omega)]
    exact ob_high (by unfold nmA; omega)
   ·simp -implicitDefEqProofs (maxSteps := 2000000) (disch := omega) only [↓reduceIte, go_sem, Int.reduceToNat, Nat.reduceAdd, Nat.reduceLeDiff, Nat.reduceEqDiff, Nat.reduceSub, Nat.reduceMul, reduceCtorEq]
    have hal : (insAt L b).length = u.length := (hL2 _ (List.mem_of_getElem? hg)).1
    refine or_callE (w := 1) (y := backS u B.code (outK L r b)) hal (by rw [backS_len]; exact hok r) (by omega) ?_ ?_ rfl rfl (by unfold nmA; omega) (by unfold nmA; omega) (by unfold nmA; omega) fun acc2 => ?_
    ·show optA _ (nmA b) = _
     rw [optA_ne (by unfold nmA; omega), optA_ne (by unfold nmA; omega), optA_ne (by unfold nmA; omega), optA_ne (by unfold nmA; omega), optA_ne (by unfold nmA; omega), optA_ne (by unfold nmA; omega), optA_ne (by unfold nmA; omega), optA_ne (by unfold nmA; omega), optA_del, if_neg (by unfold nmA; omega), optA_del, if_neg (by unfold nmA; omega)]
     exact ob_inB hg
    ·show optA _ (nmA b + 1) = _
     rw [optA_ne (by unfold nmA; omega), optA_ne (by unfold nmA; omega), optA_ne (by unfold nmA; omega), optA_ne (by unfold nmA; omega), optA_ne (by unfold nmA; omega), optA_ne (by unfold nmA; omega), optA_ne (by unfold nmA; omega), optA_ne (by unfold nmA; omega), optA_del, if_neg (by unfold nmA; omega), optA_del, if_neg (by unfold nmA; omega)]
     exact ob_inW hg
    ·simp -implicitDefEqProofs (maxSteps := 2000000) (disch := omega) only [↓reduceIte, go_sem, Int.reduceToNat, Nat.reduceAdd, Nat.reduceLeDiff, Nat.reduceEqDiff, Nat.reduceSub, Nat.reduceMul, reduceCtorEq]
     refine accL (by simp [accsOk, pairsOk, accClash, meets, n0]; refine ⟨⟨?_, ?_⟩, ⟨?_, ?_⟩, ?_, ?_⟩ <;> kernel_rfl) ?_
     have y1 : (3 = nmA b) = False := eq_false (by unfold nmA; omega)
     have y2 : (7 = nmA b) = False := eq_false (by unfold nmA; omega)
     have y3 : (12 = nmA b) = False := eq_false (by unfold nmA; omega)
     have y4 : (1012 = nmA b) = False := eq_false (by unfold nmA; omega)
     have y5 : (1013 = nmA b) = False := eq_false (by unfold nmA; omega)
     have y6 : (1014 = nmA b) = False := eq_false (by unfold nmA; omega)
     have y7 : (1000000000 = nmA b) = False := eq_false (by unfold nmA; omega)
     have y8 : (1000000001 = nmA b) = False := eq_false (by unfold nmA; omega)
     have y9 : (nmA b = nmA b + 1) = False := eq_false (by omega)
     have w1 : (nmA b = 2) = False := eq_false (by unfold nmA; omega)
     have w2 : (nmA b = 6) = False := eq_false (by unfold nmA; omega)
     have w3 : (nmA b = 11) = False := eq_false (by unfold nmA; omega)
     have w4 : (nmA b = 1011) = False := eq_false (by unfold nmA; omega)
     have w5 : (nmA b = 1012) = False := eq_false (by unfold nmA; omega)
     have w6 : (nmA b = 1013) = False := eq_false (by unfold nmA; omega)
     have w7 : (nmA b = 999999999) = False := eq_false (by unfold nmA; omega)
     have w8 : (nmA b = 1000000000) = False := eq_false (by unfold nmA; omega)
     have x1 : (2 = nmA b) = False := eq_false (by unfold nmA; omega)
     have x2 : (6 = nmA b) = False := eq_false (by unfold nmA; omega)
     have x3 : (11 = nmA b) = False := eq_false (by unfold nmA; omega)
     have x4 : (1011 = nmA b) = False := eq_false (by unfold nmA; omega)
     have x7 : (999999999 = nmA b) = False := eq_false (by unfold nmA; omega)
     simp -implicitDefEqProofs (maxSteps := 2000000) (disch := omega) only [↓reduceIte, go_sem, Int.reduceToNat, Nat.reduceAdd, Nat.reduceLeDiff, Nat.reduceEqDiff, Nat.reduceSub, Nat.reduceMul, reduceCtorEq, y1, y2, y3, y4, y5, y6, y7, y8, y9, w1, w2, w3, w4, w5, w6, w7, w8, x1, x2, x3, x4, x7]
     have hMl : (M.set b (orS (insAt L b) (backS u B.code (outK L r b)), outK L r b)).length = M.length := List.length_set
     have hup := fun j => ob_upIn (n := u.length) (k := j) (a' := orS (insAt L b) (backS u B.code (outK L r b))) hg
     have hio := ob_inB (n := u.length) hg
     have hML : M.length < 1000000 := by omega
     refine dynB (dropSet (k := 1000000000) (w := 1) (n := u.length) (s := backS u B.code (outK L r b)) (rs := [(4, .ref 7 0), (43, .bool (orS (insAt L b) (backS u B.code (outK L r b)) != insAt L b))])
      (objs := stL f v vi vo rg u ch (M.set b (orS (insAt L b) (backS u B.code (outK L r b)), outK L r b))) ?_ ?_ ?_ ?_ ?_ ?_ ?_ ?_) ?_
     ·show optA _ _ = _
      rw [optA_ne (by unfold nmA; omega), optA_ne (by unfold nmA; omega), optA_ne (by omega), optA_hit]
     ·show optA _ _ = _
      rw [optA_ne (by unfold nmA; omega), optA_ne (by unfold nmA; omega), optA_hit]
     ·intro j j1 j2
      show optA _ j = optA _ j
      unfold stL
      rw [hMl]
      generalize objsL u.length 0 (M.set b (orS (insAt L b) (backS u B.code (outK L r b)), outK L r b)) = O2 at hup
      generalize objsL u.length 0 M = O1 at hup hio
      by_cases e1 : j = nmA b + 1
      ·rw [e1, optA_hit, optA_ne (by unfold nmA; omega), optA_ne (by unfold nmA; omega), optA_ne (by unfold nmA; omega), optA_ne (by unfold nmA; omega), optA_ne (by unfold nmA; omega), optA_ne (by unfold nmA; omega), hup, if_pos rfl]
      ·by_cases e2 : j = nmA b
       ·rw [e2, optA_ne (by omega), optA_hit, optA_ne (by unfold nmA; omega), optA_ne (by unfold nmA; omega), optA_ne (by unfold nmA; omega), optA_ne (by unfold nmA; omega), optA_ne (by unfold nmA; omega), optA_ne (by unfold nmA; omega), hup, if_neg (by omega), hio]
       ·have hrest : optA O2 j = optA (delA (delA (delA (delA O1 1000000000) 1000000001) (nmA b)) (nmA b + 1)) j := by
         rw [optA_del, if_neg e1, optA_del, if_neg e2, optA_del, if_neg j2, optA_del, if_neg j1, hup, if_neg e1]
        rw [optA_ne e1, optA_ne e2, optA_ne j2, optA_ne j1]
        simp only [optA, hrest]
     ·rw [ob_stL (by omega)]
      exact ob_high (by rw [hMl]; unfold nmA; omega)
     ·rw [ob_stL (by omega)]
      exact ob_high (by rw [hMl]; unfold nmA; omega)
     ·intro j o kk ob ho hkk
      exact fz_stL (by rw [hMl]; exact hML) ho (.inl (by omega))
     ·intro p hp
      simp only [List.mem_cons, List.not_mem_nil, or_false] at hp
      rcases hp with rfl | rfl <;> (simp -implicitDefEqProofs (maxSteps := 2000000) (disch := omega) only [↓reduceIte, go_sem, Int.reduceToNat, Nat.reduceAdd, Nat.reduceLeDiff, Nat.reduceEqDiff, Nat.reduceSub, Nat.reduceMul, reduceCtorEq]; try rfl)
     ·intro p hp kk ob hkk
      simp only [List.mem_cons, List.not_mem_nil, or_false] at hp
      rcases hp with rfl | rfl
      ·simp only [fz, beq_ne (show 7 ≠ kk by omega), cond_false]
      ·rfl
     ·rw [hMs]
      simp -implicitDefEqProofs (maxSteps := 2000000) (disch := omega) only [↓reduceIte, go_sem, Int.reduceToNat, Nat.reduceAdd, Nat.reduceLeDiff, Nat.reduceEqDiff, Nat.reduceSub, Nat.reduceMul, reduceCtorEq]
      refine ifB (fun e => ?_) (fun e => ?_)
      ·unfold stL
       simp -implicitDefEqProofs (maxSteps := 2000000) (disch := omega) only [↓reduceIte, go_sem, Int.reduceToNat, Nat.reduceAdd, Nat.reduceLeDiff, Nat.reduceEqDiff, Nat.reduceSub, Nat.reduceMul, reduceCtorEq]
       refine ⟨[], rfl, rfl, fun j => ?_⟩
       have ec : stepC u B r L b = true := e
       rw [ec, Bool.or_true]
       by_cases j7 : j = 7
       ·rw [j7]
        rfl
       ·rw [optA_ne j7]
        simp only [optA, beq_ne (show 7 ≠ j by omega), cond_false]
        rw [optA_del, if_neg j7]
        rfl
      ·simp -implicitDefEqProofs (maxSteps := 2000000) (disch := omega) only [↓reduceIte, go_sem, Int.reduceToNat, Nat.reduceAdd, Nat.reduceLeDiff, Nat.reduceEqDiff, Nat.reduceSub, Nat.reduceMul, reduceCtorEq]
       have ec : stepC u B r L b = false := e
       refine ⟨[], rfl, rfl, fun j => ?_⟩
       rw [ec, Bool.or_false]
       rfl
end Go.Proofs.YtgbmneoeggdaoaaDoor.X
