/- An example: works. -/
import Derived.Test.YtgbmneoeggdaoaaDoorXl
import Derived.Test.YtgbmneoeggdaoaaDoorXe
namespace Go.Proofs.YtgbmneoeggdaoaaDoor.X
open Go Go.AM Go.Proofs
attribute [local go_sem ↓] w_skip w_lbl w_ops w_draw w_pre w_post w_alt w_seq w_cond w_block w_join w_loop w_exit w_ret w_scope w_rfunc l_nil l_cons th_n th_e th_r bk_n bk_r bk_e t_nil t_it t_call t_callg i_nil i_one i_grp s_nil s_cons c_call c_callg e_rar e_dynB e_mv e_nil e_dyn e_nilb e_frz o_mov o_bin o_eq o_un o_conv o_len o_slen o_idx o_aix o_fad o_load o_store o_boxp o_boxo o_boxm o_alloc o_allocm o_alloca o_nilarr o_build o_bslp o_bslo o_slc o_sslc o_slc3 o_sidx o_mkfn o_mkmv o_calle o_bslr o_ridx o_rload o_rapp o_vidx o_ext o_pick o_callf o_callb o_appd o_clear o_mxn o_field o_nilc o_make o_makeb o_buildm o_boxg o_mkif o_tass o_eqs o_callo o_callx k_int k_str k_bool k_grb k_grt k_some k_none k_rar k_arr k_lens k_lenf k_lenh k_lenb k_idxb k_idxs k_idxf k_idxh k_ld k_loadp k_loadr k_loade k_storer k_storee k_oin k_ois k_slcs k_slcf k_slch k_slc3s k_slc3f k_slc3h k_app2 k_apps k_appf k_apph k_cals k_cald k_cali k_cnb k_cna k_esn k_esc k_efn k_efc k_esh b_add b_sub b_mul b_quo b_rem b_and b_or b_xor b_andNot b_eql b_neq b_lss b_leq b_gtr b_geq b_shl b_shr b_seq b_sne b_slt b_sad q_bool q_str q_nil q_nilf u_not u_neg u_xor f_ret f_nor v_r v_c v_g v_reg v_ob v_set v_put v_so v_sn v_pn v_pc g_nil d_nil p_nil m_mv m_fr z_nil z_cons z_an z_ac g_cons d_cons p_cons y_mov y_bin y_eq y_un y_conv y_len y_slen y_idx y_aix y_fad y_load y_store y_boxp y_boxo y_boxm y_alloc y_alloca y_allocm y_nilarr y_build y_bslp y_bslo y_slc y_sslc y_slc3 y_sidx y_mkfn y_ext y_pick y_callf y_callb y_appd y_clear y_mxn y_field y_nilc y_make y_makeb y_buildm y_boxg y_mkif y_tass y_eqs y_callo y_mkmv y_callx y_vidx y_bslr y_ridx y_rload y_rapp y_calle nb_if
attribute [local go_sem] nbd VL_mk VL2_mk If_t If_f If_not If_and If_or If_dt If_df If_et If_ef If_ne Ck_t Ck_h Opt_s ld_a ld_c lm_a lm_c renL ren keepR renA idxM invL getObs mapOb renOb allNone putAll fzR fzO fz fzL fzOb fzB frzOk upFrom mapR resOne resA cellsOf oneA oneAL isP isPL okSt kRows kParts fillA setAt bor bor0 bor1 bor2 borC borI key0 key1 key2 keysA fillM cellsM cellM unif ptrA ifOk kPartsM getObsM allNoneM zipU scal0 scalar eqC evNil evNilF memK keyX hideM xbor scal1 scalX scalOb bndA mkMag showM lendV hideV hideR hideOb hideL hideO showL backO noneO mapA List.map_cons List.map_nil List.cons_append List.nil_append List.append_nil List.drop_zero List.drop_succ_cons List.drop_nil List.take_succ_cons List.take_zero List.take_nil List.length_cons List.length_nil List.length_map List.getElem?_map Option.map_some Option.map_none Int.toNat_natCast Int.toNat_zero Int.toNat_one Int.natCast_nonneg List.flatMap_cons List.flatMap_nil List.all_cons List.all_nil List.any_cons List.any_nil Bool.or_false Bool.false_or Bool.or_true Bool.true_or Bool.and_true Bool.true_and Bool.and_false Bool.false_and Bool.not_true Bool.not_false beq_self_eq_true nb_self all_nil List.forall_mem_cons tk_map tk_app bs_self bs_dec bq_t bq_f Bool.not_not decide_true decide_false Bool.not_not and_self and_true true_and eq_self List.reverse_cons List.reverse_nil List.getElem?_cons_zero List.getElem?_cons_succ cond_true cond_false List.set_cons_zero List.set_cons_succ Nat.zero_add Nat.add_zero if_true if_false ite_true ite_false implies_true wrap64 wrap8
open Go.Bits
set_option linter.unusedVariables false
set_option linter.unusedSimpArgs false
set_option maxRecDepth 100000
set_option maxHeartbeats 1000000 in
theorem C18 (a b : List Int) (ha : a.length < 1000000) : Ctr Tryd.prog 18 [.sl (a.map encN), .sl (b.map encN)] [] (ret [.bool (a == b)]) := by
 apply ctr_b A18_ok rfl (Nat.le_of_ble_eq_true rfl)
 unfold A18
 simp only [initL, Nat.reduceAdd]
 simp -implicitDefEqProofs (maxSteps := 2000000) (disch := omega) only [↓reduceIte, go_sem, Int.reduceToNat, Nat.reduceAdd, Nat.reduceLeDiff, Nat.reduceEqDiff, Nat.reduceSub, Nat.reduceMul, reduceCtorEq]
 refine ifE (fun e => ?_) (fun e => ?_)
 ·simp -implicitDefEqProofs (maxSteps := 2000000) (disch := omega) only [↓reduceIte, go_sem, Int.reduceToNat, Nat.reduceAdd, Nat.reduceLeDiff, Nat.reduceEqDiff, Nat.reduceSub, Nat.reduceMul, reduceCtorEq]
  refine loopL (σ := Nat) (fun n => ⟨[(0, .sl (a.map encN)), (1, .sl (b.map encN)), (5, .int .i64 (n : Int))], []⟩) (fun n => n ≤ a.length ∧ a.take n = b.take n) (fun n => a.length - n) 0 (by simp -implicitDefEqProofs (maxSteps := 2000000) (disch := omega) only [↓reduceIte, go_sem, Int.reduceToNat, Nat.reduceAdd, Nat.reduceLeDiff, Nat.reduceEqDiff, Nat.reduceSub, Nat.reduceMul, reduceCtorEq]; rfl) ⟨Nat.zero_le _, rfl⟩ ?_
  rintro n ⟨h1, h2⟩
  have hl : a.length = b.length := by omega
  simp -implicitDefEqProofs (maxSteps := 2000000) (disch := omega) only [↓reduceIte, go_sem, Int.reduceToNat, Nat.reduceAdd, Nat.reduceLeDiff, Nat.reduceEqDiff, Nat.reduceSub, Nat.reduceMul, reduceCtorEq]
  refine ifD (fun c => ?_) (fun c => ?_)
  ·have g1 := getZ (l := a) (k := n) (by omega)
   have g2 := getZ (l := b) (k := n) (by omega)
   simp -implicitDefEqProofs (maxSteps := 2000000) (disch := omega) only [↓reduceIte, go_sem, Int.reduceToNat, Nat.reduceAdd, Nat.reduceLeDiff, Nat.reduceEqDiff, Nat.reduceSub, Nat.reduceMul, reduceCtorEq, g1, g2, encN]
   refine accL (by kernel_rfl) ?_
   simp -implicitDefEqProofs (maxSteps := 2000000) (disch := omega) only [↓reduceIte, go_sem, Int.reduceToNat, Nat.reduceAdd, Nat.reduceLeDiff, Nat.reduceEqDiff, Nat.reduceSub, Nat.reduceMul, reduceCtorEq, g1, g2, encN]
   refine ifE (fun e2 => ?_) (fun e2 => ?_)
   ·simp -implicitDefEqProofs (maxSteps := 2000000) (disch := omega) only [↓reduceIte, go_sem, Int.reduceToNat, Nat.reduceAdd, Nat.reduceLeDiff, Nat.reduceEqDiff, Nat.reduceSub, Nat.reduceMul, reduceCtorEq]
    refine ⟨n + 1, by simp, ⟨by omega, ?_⟩, by omega⟩
    rw [snoc_take g1, snoc_take g2, h2, e2]
   ·simp -implicitDefEqProofs (maxSteps := 2000000) (disch := omega) only [↓reduceIte, go_sem, Int.reduceToNat, Nat.reduceAdd, Nat.reduceLeDiff, Nat.reduceEqDiff, Nat.reduceSub, Nat.reduceMul, reduceCtorEq]
    have hne : (a == b) = false := by
     refine beq_eq_false_iff_ne.2 fun hab => ?_
     exact e2 (by rw [hab])
    exact ⟨by rw [hne], rfl⟩
  ·simp -implicitDefEqProofs (maxSteps := 2000000) (disch := omega) only [↓reduceIte, go_sem, Int.reduceToNat, Nat.reduceAdd, Nat.reduceLeDiff, Nat.reduceEqDiff, Nat.reduceSub, Nat.reduceMul, reduceCtorEq]
   have : n = a.length := by omega
   rw [this, List.take_length, hl, List.take_length] at h2
   exact ⟨by rw [h2]; simp, rfl⟩
 ·simp -implicitDefEqProofs (maxSteps := 2000000) (disch := omega) only [↓reduceIte, go_sem, Int.reduceToNat, Nat.reduceAdd, Nat.reduceLeDiff, Nat.reduceEqDiff, Nat.reduceSub, Nat.reduceMul, reduceCtorEq]
  have hne : (a == b) = false := by
   refine beq_eq_false_iff_ne.2 fun hab => ?_
   exact e (by rw [hab])
  exact ⟨by rw [hne], rfl⟩
def vX (n : Int) : Opd := ⟨1, 0, n, 0⟩
def o0X : Opd := ⟨0, 0, 0, 0⟩
def bsX : List Blk := [⟨⟨#[97]⟩, false, [], [⟨1, vX 2, [vX 1, vX 1], .empty, 0, [], []⟩, ⟨21, o0X, [vX 2], .empty, 0, [⟨#[98]⟩, ⟨#[99]⟩], []⟩]⟩,
 ⟨⟨#[98]⟩, false, [], [⟨23, o0X, [vX 1], .empty, 0, [], []⟩]⟩, ⟨⟨#[99]⟩, false, [], [⟨23, o0X, [vX 2], .empty, 0, [], []⟩]⟩]
def fX : Fnc := ⟨false, .empty, [⟨1, 0⟩, ⟨2, 0⟩], [], bsX⟩
theorem uX : idsU fX = [1, 2] := by
 have h : (idsR fX).mergeSort leI = [1, 2] := by
  have : idsR fX = [1, 2] := rfl
  rw [this]
  exact List.mergeSort_of_pairwise (by decide)
 rw [idsU, h]
 rfl
theorem succX : succF fX.blocks = [[1, 2], [], []] := by decide
def insX : List (List Bool) := [[true, false], [true, false], [false, true]]
def outsX : List (List Bool) := [[true, true], [false, false], [false, false]]
theorem lastX : (lastL fX).map (·.1) = insX ∧ (lastL fX).map (·.2) = outsX := by
 unfold lastL emptyL
 rw [uX, succX]
 decide
theorem okX : NewOk fX := by
 refine ⟨⟨by decide, by rw [succX]; decide, by decide, by decide⟩, ⟨by decide, by decide⟩, by decide, by decide⟩
theorem C17 (n : Int) : Ctr Tryd.prog 17 [.int .i64 n] [] (ret [.agg (encO (vX n))]) := by
 apply ctr_b A17_ok rfl (Nat.le_of_ble_eq_true rfl)
 unfold A17
 simp only [initL, Nat.reduceAdd]
 simp -implicitDefEqProofs (maxSteps := 2000000) (disch := omega) only [↓reduceIte, go_sem, Int.reduceToNat, Nat.reduceAdd, Nat.reduceLeDiff, Nat.reduceEqDiff, Nat.reduceSub, Nat.reduceMul, reduceCtorEq]
 exact ⟨rfl, rfl⟩
theorem spX : spansL fX [1, 2] insX outsX 1 = [(0, 3), (4, 5)] := by decide
theorem in0X : listL [1, 2] [true, false] = [1] := by decide
theorem out0X : listL [1, 2] [true, true] = [1, 2] := by decide
theorem pr1X : presL fX [1, 2] outsX 1 = [1, 2] := by decide
theorem th0X : thrL fX [1, 2] outsX 0 0 = [1] := by decide
theorem mo0X : mostL fX [1, 2] outsX 0 = 2 := by decide
set_option maxHeartbeats 4000000 in
theorem C6 : Ctr Tryd.prog 6 [] [] (ret [.bool true]) := by
 have hO := LvOk.of okX
 have hn := C7 fX okX
 rw [uX, lastX.1, lastX.2] at hn hO
 have hv1 := C17 1
 have hv2 := C17 2
 have hsp := C16 fX [1, 2] insX outsX 1 hO
 have hin := C10 fX [1, 2] insX outsX 2 0 [true, false] rfl rfl rfl (by decide)
 have hou := C13 fX [1, 2] insX outsX 2 0 [true, true] rfl (by decide) rfl rfl (by decide)
 have hpr := C9 fX [1, 2] insX outsX 1 hO (by decide)
 have hth := C14 fX [1, 2] insX outsX 0 0 hO
 have hmo := C19 fX [1, 2] insX outsX 0 hO (by decide)
 rw [spX] at hsp
 rw [in0X] at hin
 rw [out0X] at hou
 rw [pr1X] at hpr
 rw [th0X] at hth
 rw [mo0X] at hmo
 have hi1 := C18 [1] [1] (by decide)
 have hi2 := C18 [1, 2] [1, 2] (by decide)
 rw [show (([1] : List Int) == [1]) = true by decide] at hi1
 rw [show (([1, 2] : List Int) == [1, 2]) = true by decide] at hi2
 have ⟨L, eL⟩ : ∃ L, lvP fX [1, 2] insX outsX = .rp L := ⟨_, rfl⟩
 rw [eL] at hn hsp hin hou hpr hth hmo
 simp only [fX, bsX, vX, o0X, encFn, encBk, encIn, encO, encSt, encK, encN, encRg, encSp, List.map_cons, List.map_nil, List.length_cons, List.length_nil, Nat.reduceAdd, Int.natCast_zero, Int.cast_ofNat_Int] at hn hv1 hv2 hsp hin hou hpr hth hmo hi1 hi2
 apply ctr_b A6_ok rfl (Nat.le_of_ble_eq_true rfl)
 unfold A6
 simp only [initL, Nat.reduceAdd]
 simp -implicitDefEqProofs (maxSteps := 2000000) (disch := omega) only [↓reduceIte, go_sem, Int.reduceToNat, Nat.reduceAdd, Nat.reduceLeDiff, Nat.reduceEqDiff, Nat.reduceSub, Nat.reduceMul, reduceCtorEq]
 refine callL hv2 ?_
 simp -implicitDefEqProofs (maxSteps := 2000000) (disch := omega) only [↓reduceIte, go_sem, Int.reduceToNat, Nat.reduceAdd, Nat.reduceLeDiff, Nat.reduceEqDiff, Nat.reduceSub, Nat.reduceMul, reduceCtorEq]
 refine callL hv1 ?_
 simp -implicitDefEqProofs (maxSteps := 2000000) (disch := omega) only [↓reduceIte, go_sem, Int.reduceToNat, Nat.reduceAdd, Nat.reduceLeDiff, Nat.reduceEqDiff, Nat.reduceSub, Nat.reduceMul, reduceCtorEq]
 refine callL hv1 ?_
 simp -implicitDefEqProofs (maxSteps := 2000000) (disch := omega) only [↓reduceIte, go_sem, Int.reduceToNat, Nat.reduceAdd, Nat.reduceLeDiff, Nat.reduceEqDiff, Nat.reduceSub, Nat.reduceMul, reduceCtorEq]
 refine callL hv2 ?_
 simp -implicitDefEqProofs (maxSteps := 2000000) (disch := omega) only [↓reduceIte, go_sem, Int.reduceToNat, Nat.reduceAdd, Nat.reduceLeDiff, Nat.reduceEqDiff, Nat.reduceSub, Nat.reduceMul, reduceCtorEq]
 refine callL hv1 ?_
 simp -implicitDefEqProofs (maxSteps := 2000000) (disch := omega) only [↓reduceIte, go_sem, Int.reduceToNat, Nat.reduceAdd, Nat.reduceLeDiff, Nat.reduceEqDiff, Nat.reduceSub, Nat.reduceMul, reduceCtorEq]
 refine callL hv2 ?_
 simp -implicitDefEqProofs (maxSteps := 2000000) (disch := omega) only [↓reduceIte, go_sem, Int.reduceToNat, Nat.reduceAdd, Nat.reduceLeDiff, Nat.reduceEqDiff, Nat.reduceSub, Nat.reduceMul, reduceCtorEq]
 refine callL hn ?_
 simp -implicitDefEqProofs (maxSteps := 2000000) (disch := omega) only [↓reduceIte, go_sem, Int.reduceToNat, Nat.reduceAdd, Nat.reduceLeDiff, Nat.reduceEqDiff, Nat.reduceSub, Nat.reduceMul, reduceCtorEq]
 refine callL hsp ?_
 simp -implicitDefEqProofs (maxSteps := 2000000) (disch := omega) only [↓reduceIte, go_sem, Int.reduceToNat, Nat.reduceAdd, Nat.reduceLeDiff, Nat.reduceEqDiff, Nat.reduceSub, Nat.reduceMul, reduceCtorEq]
 refine callL hin ?_
 simp -implicitDefEqProofs (maxSteps := 2000000) (disch := omega) only [↓reduceIte, go_sem, Int.reduceToNat, Nat.reduceAdd, Nat.reduceLeDiff, Nat.reduceEqDiff, Nat.reduceSub, Nat.reduceMul, reduceCtorEq]
 refine callL hi1 ?_
 simp -implicitDefEqProofs (maxSteps := 2000000) (disch := omega) only [↓reduceIte, go_sem, Int.reduceToNat, Nat.reduceAdd, Nat.reduceLeDiff, Nat.reduceEqDiff, Nat.reduceSub, Nat.reduceMul, reduceCtorEq]
 refine callL hou ?_
 simp -implicitDefEqProofs (maxSteps := 2000000) (disch := omega) only [↓reduceIte, go_sem, Int.reduceToNat, Nat.reduceAdd, Nat.reduceLeDiff, Nat.reduceEqDiff, Nat.reduceSub, Nat.reduceMul, reduceCtorEq]
 refine callL hi2 ?_
 simp -implicitDefEqProofs (maxSteps := 2000000) (disch := omega) only [↓reduceIte, go_sem, Int.reduceToNat, Nat.reduceAdd, Nat.reduceLeDiff, Nat.reduceEqDiff, Nat.reduceSub, Nat.reduceMul, reduceCtorEq]
 refine callL hpr ?_
 simp -implicitDefEqProofs (maxSteps := 2000000) (disch := omega) only [↓reduceIte, go_sem, Int.reduceToNat, Nat.reduceAdd, Nat.reduceLeDiff, Nat.reduceEqDiff, Nat.reduceSub, Nat.reduceMul, reduceCtorEq]
 refine callL hi2 ?_
 simp -implicitDefEqProofs (maxSteps := 2000000) (disch := omega) only [↓reduceIte, go_sem, Int.reduceToNat, Nat.reduceAdd, Nat.reduceLeDiff, Nat.reduceEqDiff, Nat.reduceSub, Nat.reduceMul, reduceCtorEq]
 refine callL hth ?_
 simp -implicitDefEqProofs (maxSteps := 2000000) (disch := omega) only [↓reduceIte, go_sem, Int.reduceToNat, Nat.reduceAdd, Nat.reduceLeDiff, Nat.reduceEqDiff, Nat.reduceSub, Nat.reduceMul, reduceCtorEq]
 refine callL hi1 ?_
 simp -implicitDefEqProofs (maxSteps := 2000000) (disch := omega) only [↓reduceIte, go_sem, Int.reduceToNat, Nat.reduceAdd, Nat.reduceLeDiff, Nat.reduceEqDiff, Nat.reduceSub, Nat.reduceMul, reduceCtorEq]
 refine callL hmo ?_
 simp -implicitDefEqProofs (maxSteps := 2000000) (disch := omega) only [↓reduceIte, go_sem, Int.reduceToNat, Nat.reduceAdd, Nat.reduceLeDiff, Nat.reduceEqDiff, Nat.reduceSub, Nat.reduceMul, reduceCtorEq]
 exact ⟨rfl, rfl⟩
/- The law LiveTells, walked. -/
set_option maxRecDepth 10000
section
variable {f : Fnc}
theorem mem_want (h : NewOk f) {s : List Bool} (hs : s.length = (idsU f).length) {x : Int} {b i : Nat} (hb : b < f.blocks.length) (hw : ∀ (k : Nat), (idsU f)[k]? = some x → (s.getD k false = true ↔ Wnt f (succF f.blocks) x b i)) : decide (x ∈ listL (idsU f) s) = wantB f (succF f.blocks) b i x := by
 rw [Bool.eq_iff_iff, decide_eq_true_iff, want_iff h.inn hb, known_iff]
 by_cases hv : x ∈ idsU f
 ·have ⟨k, hk⟩ := List.mem_iff_getElem?.1 hv
  rw [mem_at (idsU_lt f) hs hk, hw k hk]
  exact ⟨fun q => ⟨hv, q⟩, fun q => q.2⟩
 ·refine ⟨fun q => ?_, fun q => absurd q.1 hv⟩
  have ⟨k, _, e⟩ := (mem_listL hs).1 q
  exact absurd (List.mem_of_getElem? e) hv
theorem in_want (h : NewOk f) {b : Nat} (hb : b < f.blocks.length) (x : Int) : decide (x ∈ listL (idsU f) (insAt (lastL f) b)) = wantB f (succF f.blocks) b 0 x :=
 mem_want h (insAt_len (lastL_ok h).1 hb) hb fun k hk => ins_iff h hk hb
theorem out_want (h : NewOk f) {b i : Nat} (hb : b < f.blocks.length) (hi : (blkAt f b).code.length ≤ i) (x : Int) : decide (x ∈ listL (idsU f) (outAt (lastL f) b)) = wantB f (succF f.blocks) b i x :=
 mem_want h (outAt_len (lastL_ok h).1 hb) hb fun k hk => out_iff h hk hb hi
theorem thr_want (h : NewOk f) {b : Nat} {B : Blk} (hB : f.blocks[b]? = some B) (hn : 0 < B.code.length) (x : Int) : decide (x ∈ thrL f (idsU f) ((lastL f).map (·.2)) (b : Int) (B.code.length - 1 : Nat)) = (wantB f (succF f.blocks) b B.code.length x && !givesX (insAtF f b (B.code.length - 1)) x) := by
 have hb := (List.getElem?_eq_some_iff.1 hB).1
 have hbk := blkAt_get hB
 have hlo := outAt_len (lastL_ok h).1 hb
 have hof : ¬ ofP f.blocks (b : Int) (B.code.length - 1 : Nat) < 0 := by
  unfold ofP
  rw [len_at hB, if_neg (by omega)]
  omega
 have e1 : thrS f (idsU f) ((lastL f).map (·.2)) b (B.code.length - 1) = dstS (idsU f) (insAtF f b (B.code.length - 1)) (outAt (lastL f) b) := by
  unfold thrS
  rw [outs_get]
  have e2 : (f.blocks.getD b blk0) = blkAt f b := rfl
  rw [e2, hbk, List.drop_eq_nil_of_le (by omega)]
  show dstS _ _ (outAt (lastL f) b) = _
  rw [insAtF, hbk]
 unfold thrL
 rw [if_neg hof, Int.toNat_natCast, Int.toNat_natCast, e1]
 have hld : (dstS (idsU f) (insAtF f b (B.code.length - 1)) (outAt (lastL f) b)).length = (idsU f).length := by rw [dstS_len]; exact hlo
 rw [← out_want h hb (by rw [hbk]; exact Nat.le_refl _), Bool.eq_iff_iff, Bool.and_eq_true, decide_eq_true_iff, decide_eq_true_iff]
 by_cases hv : x ∈ idsU f
 ·have ⟨k, hk⟩ := List.mem_iff_getElem?.1 hv
  rw [mem_at (idsU_lt f) hld hk, mem_at (idsU_lt f) hlo hk, dst_get (idsU_lt f) hk hlo, Bool.and_eq_true]
  exact ⟨fun q => ⟨q.2, q.1⟩, fun q => ⟨q.2, q.1⟩⟩
 ·constructor
  ·intro q
   have ⟨k, _, e⟩ := (mem_listL hld).1 q
   exact absurd (List.mem_of_getElem? e) hv
  ·intro q
   have ⟨k, _, e⟩ := (mem_listL hlo).1 q.1
   exact absurd (List.mem_of_getElem? e) hv
theorem sum_le {bs : List Blk} {M : Nat} (h : ∀ b ∈ bs, b.code.length ≤ M) : ∀ k, k ≤ bs.length → sumTo bs k ≤ M * k := by
 intro k
 induction k with
 | zero => intro _; simp [sumTo]
 | succ k ih =>
  intro hk
  have hx := List.getElem?_eq_getElem (l := bs) (i := k) (by omega)
  have := h _ (List.mem_of_getElem? hx)
  rw [sumTo_succ hx, Nat.mul_succ]
  have := ih (by omega)
  omega
theorem code_le_sum {bs : List Blk} {b : Blk} (h : b ∈ bs) : b.code.length ≤ sumTo bs bs.length := by
 have ⟨k, hk⟩ := List.mem_iff_getElem?.1 h
 have := sumTo_succ hk
 have := sumTo_max (bs := bs) (b := k + 1)
 omega
theorem newOk_of (h1 : f.blocks.length ≤ 80) (h2 : f.regs.length ≤ 2000) (h3 : ∀ b ∈ f.blocks, b.code.length ≤ 2000 ∧ ∀ x ∈ b.code, x.args.length ≤ 9223372036854775807 ∧ x.labels.length ≤ 9223372036854775807) : NewOk f := by
 have hsum : ∀ k, k ≤ f.blocks.length → sumTo f.blocks k ≤ 2000 * k := by
  intro k
  induction k with
  | zero => intro _; simp [sumTo]
  | succ k ih =>
   intro hk
   have hx := List.getElem?_eq_getElem (l := f.blocks) (i := k) (by omega)
   have := (h3 _ (List.mem_of_getElem? hx)).1
   rw [sumTo_succ hx]
   have := ih (by omega)
   omega
 refine ⟨⟨by simp [succF], fun r hr => ?_, fun B hB => ⟨by have := (h3 B hB).1; omega, fun x hx => by have := ((h3 B hB).2 x hx).1; omega⟩, by omega⟩, ⟨by omega, by have := hsum _ (Nat.le_refl _); omega⟩, by omega, fun b hb => ⟨by have := (h3 b hb).1; omega, fun x hx => by have := ((h3 b hb).2 x hx).2; omega⟩⟩
 unfold succF at hr
 have ⟨B, _, e⟩ := List.mem_map.1 hr
 rw [← e]
 exact ⟨by have := succB_len f.blocks B; omega, succB_lt f.blocks B⟩
end
set_option maxHeartbeats 8000000 in
theorem C3 (f : Fnc) (p v : Int) (hp : p < 9223372036854775808) (hB : f.blocks.length ≤ 140737488355328) (hc : ∀ b ∈ f.blocks, b.code.length ≤ 140737488355328 ∧ ∀ i ∈ b.code, i.args.length ≤ 140737488355328 ∧ i.labels.length ≤ 140737488355328) : Ctr Tryd.prog 3 [.agg (encFn f), .int .i64 p, .int .i64 v] [] (ret [.bool true]) := by
 have hlg := C4 f (by omega) (fun b hb => ⟨by have := (hc b hb).1; omega, fun i hi => by have := ((hc b hb).2 i hi).2; omega⟩)
 have hwk := C6
 apply ctr_b A3_ok rfl (Nat.le_of_ble_eq_true rfl)
 unfold A3
 simp only [initL, Nat.reduceAdd]
 unfold encFn at hlg ⊢
 simp -implicitDefEqProofs (maxSteps := 2000000) (disch := omega) only [↓reduceIte, go_sem, Int.reduceToNat, Nat.reduceAdd, Nat.reduceLeDiff, Nat.reduceEqDiff, Nat.reduceSub, Nat.reduceMul, reduceCtorEq]
 refine callO hlg ?_
 rintro _ _ ⟨⟨lb, rfl⟩, rfl⟩
 simp -implicitDefEqProofs (maxSteps := 2000000) (disch := omega) only [↓reduceIte, go_sem, Int.reduceToNat, Nat.reduceAdd, Nat.reduceLeDiff, Nat.reduceEqDiff, Nat.reduceSub, Nat.reduceMul, reduceCtorEq]
 refine ifB (fun e0 => ?_) (fun e0 => ?_)
 ·simp -implicitDefEqProofs (maxSteps := 2000000) (disch := omega) only [↓reduceIte, go_sem, Int.reduceToNat, Nat.reduceAdd, Nat.reduceLeDiff, Nat.reduceEqDiff, Nat.reduceSub, Nat.reduceMul, reduceCtorEq]
  refine callL hwk ?_
  simp -implicitDefEqProofs (maxSteps := 2000000) (disch := omega) only [↓reduceIte, go_sem, Int.reduceToNat, Nat.reduceAdd, Nat.reduceLeDiff, Nat.reduceEqDiff, Nat.reduceSub, Nat.reduceMul, reduceCtorEq]
  exact ⟨rfl, rfl⟩
 simp -implicitDefEqProofs (maxSteps := 2000000) (disch := omega) only [↓reduceIte, go_sem, Int.reduceToNat, Nat.reduceAdd, Nat.reduceLeDiff, Nat.reduceEqDiff, Nat.reduceSub, Nat.reduceMul, reduceCtorEq]
 refine ifD (fun c1 => ?_) (fun c1 => ?_)
 ·simp -implicitDefEqProofs (maxSteps := 2000000) (disch := omega) only [↓reduceIte, go_sem, Int.reduceToNat, Nat.reduceAdd, Nat.reduceLeDiff, Nat.reduceEqDiff, Nat.reduceSub, Nat.reduceMul, reduceCtorEq]
  refine callL hwk ?_
  simp -implicitDefEqProofs (maxSteps := 2000000) (disch := omega) only [↓reduceIte, go_sem, Int.reduceToNat, Nat.reduceAdd, Nat.reduceLeDiff, Nat.reduceEqDiff, Nat.reduceSub, Nat.reduceMul, reduceCtorEq]
  exact ⟨rfl, rfl⟩
 simp -implicitDefEqProofs (maxSteps := 2000000) (disch := omega) only [↓reduceIte, go_sem, Int.reduceToNat, Nat.reduceAdd, Nat.reduceLeDiff, Nat.reduceEqDiff, Nat.reduceSub, Nat.reduceMul, reduceCtorEq]
 refine ifD (fun c2 => ?_) (fun c2 => ?_)
 ·simp -implicitDefEqProofs (maxSteps := 2000000) (disch := omega) only [↓reduceIte, go_sem, Int.reduceToNat, Nat.reduceAdd, Nat.reduceLeDiff, Nat.reduceEqDiff, Nat.reduceSub, Nat.reduceMul, reduceCtorEq]
  refine callL hwk ?_
  simp -implicitDefEqProofs (maxSteps := 2000000) (disch := omega) only [↓reduceIte, go_sem, Int.reduceToNat, Nat.reduceAdd, Nat.reduceLeDiff, Nat.reduceEqDiff, Nat.reduceSub, Nat.reduceMul, reduceCtorEq]
  exact ⟨rfl, rfl⟩
 have hsm1 : sumTo f.blocks f.blocks.length ≤ 140737488355328 * 12 := by
  have h1 := sum_le (bs := f.blocks) (M := 140737488355328) (fun b hb => (hc b hb).1) _ (Nat.le_refl _)
  have h2 : 140737488355328 * f.blocks.length ≤ 140737488355328 * 12 := Nat.mul_le_mul_left _ (by omega)
  omega
 have hcn := C5 f (by omega) (by omega)
 unfold encFn at hcn
 simp -implicitDefEqProofs (maxSteps := 2000000) (disch := omega) only [↓reduceIte, go_sem, Int.reduceToNat, Nat.reduceAdd, Nat.reduceLeDiff, Nat.reduceEqDiff, Nat.reduceSub, Nat.reduceMul, reduceCtorEq]
 refine callL hcn ?_
 simp -implicitDefEqProofs (maxSteps := 2000000) (disch := omega) only [↓reduceIte, go_sem, Int.reduceToNat, Nat.reduceAdd, Nat.reduceLeDiff, Nat.reduceEqDiff, Nat.reduceSub, Nat.reduceMul, reduceCtorEq]
 refine ifD (fun c3 => ?_) (fun c3 => ?_)
 ·simp -implicitDefEqProofs (maxSteps := 2000000) (disch := omega) only [↓reduceIte, go_sem, Int.reduceToNat, Nat.reduceAdd, Nat.reduceLeDiff, Nat.reduceEqDiff, Nat.reduceSub, Nat.reduceMul, reduceCtorEq]
  refine callL hwk ?_
  simp -implicitDefEqProofs (maxSteps := 2000000) (disch := omega) only [↓reduceIte, go_sem, Int.reduceToNat, Nat.reduceAdd, Nat.reduceLeDiff, Nat.reduceEqDiff, Nat.reduceSub, Nat.reduceMul, reduceCtorEq]
  exact ⟨rfl, rfl⟩
 have hN : NewOk f := newOk_of (by omega) (by omega) fun b hb => ⟨by have := code_le_sum hb; omega, fun x hx => ⟨by have := ((hc b hb).2 x hx).1; omega, by have := ((hc b hb).2 x hx).2; omega⟩⟩
 have hO := LvOk.of hN
 have hnw := C7 f hN
 have hpr := C9 f (idsU f) ((lastL f).map (·.1)) ((lastL f).map (·.2)) p hO hp
 have hle := presL_le hO (p := p)
 have hsa := C8 _ f p hN (by have := hO.ul; omega) (pres_lt hN (p := p)) (fun x hx => (mem_pres hN).1 hx) (pres_len hN)
 generalize presL f (idsU f) ((lastL f).map (·.2)) p = PL at hpr hsa hle
 have ⟨LV, eLV⟩ : ∃ LV, lvP f (idsU f) ((lastL f).map (·.1)) ((lastL f).map (·.2)) = .rp LV := ⟨_, rfl⟩
 rw [eLV] at hnw hpr
 unfold encFn at hnw hsa
 simp -implicitDefEqProofs (maxSteps := 2000000) (disch := omega) only [↓reduceIte, go_sem, Int.reduceToNat, Nat.reduceAdd, Nat.reduceLeDiff, Nat.reduceEqDiff, Nat.reduceSub, Nat.reduceMul, reduceCtorEq]
 refine callL hnw ?_
 simp -implicitDefEqProofs (maxSteps := 2000000) (disch := omega) only [↓reduceIte, go_sem, Int.reduceToNat, Nat.reduceAdd, Nat.reduceLeDiff, Nat.reduceEqDiff, Nat.reduceSub, Nat.reduceMul, reduceCtorEq]
 refine callL hpr ?_
 simp -implicitDefEqProofs (maxSteps := 2000000) (disch := omega) only [↓reduceIte, go_sem, Int.reduceToNat, Nat.reduceAdd, Nat.reduceLeDiff, Nat.reduceEqDiff, Nat.reduceSub, Nat.reduceMul, reduceCtorEq]
 refine callL hsa ?_
 simp -implicitDefEqProofs (maxSteps := 2000000) (disch := omega) only [↓reduceIte, go_sem, Int.reduceToNat, Nat.reduceAdd, Nat.reduceLeDiff, Nat.reduceEqDiff, Nat.reduceSub, Nat.reduceMul, reduceCtorEq]
 refine accL (by kernel_rfl) ?_
 simp -implicitDefEqProofs (maxSteps := 2000000) (disch := omega) only [↓reduceIte, go_sem, Int.reduceToNat, Nat.reduceAdd, Nat.reduceLeDiff, Nat.reduceEqDiff, Nat.reduceSub, Nat.reduceMul, reduceCtorEq]
 have hIn := fun b s hb hn => C10 f (idsU f) ((lastL f).map (·.1)) ((lastL f).map (·.2)) (idsU f).length b s hb hn rfl hO.ul
 have hOut := fun b s hb hil hn => C13 f (idsU f) ((lastL f).map (·.1)) ((lastL f).map (·.2)) (idsU f).length b s hb hil hn rfl hO.ul
 have hThr := fun b i => C14 f (idsU f) ((lastL f).map (·.1)) ((lastL f).map (·.2)) b i hO
 have hsp := C16 f (idsU f) ((lastL f).map (·.1)) ((lastL f).map (·.2)) v hO
 have hspR := C15 f hN v
 rw [spans_eq hN] at hsp
 have hspl : (spansF f (succF f.blocks) v).length ≤ 2 * sumTo f.blocks f.blocks.length := spR_inv.1
 generalize spansF f (succF f.blocks) v = SP at hsp hspR hspl
 rw [eLV] at hsp
 refine loopL (σ := Nat) (fun b => ⟨[(2, .int .i64 v), (3, .rp [.bool f.machine, .str f.name, .sl (f.regs.map encRg), .sl (f.params.map encO), .sl (f.blocks.map encBk)]), (7, .rp LV), (8, .int .i64 (b : Int))], []⟩) (fun b => b ≤ f.blocks.length) (fun b => f.blocks.length - b) 0 (by simp -implicitDefEqProofs (maxSteps := 2000000) (disch := omega) only [↓reduceIte, go_sem, Int.reduceToNat, Nat.reduceAdd, Nat.reduceLeDiff, Nat.reduceEqDiff, Nat.reduceSub, Nat.reduceMul, reduceCtorEq]; rfl) (Nat.zero_le _) ?_
 intro b hb
 simp -implicitDefEqProofs (maxSteps := 2000000) (disch := omega) only [↓reduceIte, go_sem, Int.reduceToNat, Nat.reduceAdd, Nat.reduceLeDiff, Nat.reduceEqDiff, Nat.reduceSub, Nat.reduceMul, reduceCtorEq]
 refine ifD (fun c4 => ?_) (fun c4 => ?_)
 ·have hbl : b < f.blocks.length := by omega
  have ⟨hL1, _, _⟩ := lastL_ok hN
  have hB : f.blocks[b]? = some (blkAt f b) := by rw [blkAt, List.getD_eq_getElem?_getD, List.getElem?_eq_getElem hbl]; rfl
  have hLb := at_get hL1 hbl
  have hI1 := hIn b (insAt (lastL f) b) (by rw [List.getElem?_map, hLb]; rfl) (insAt_len hL1 hbl)
  have hO1 := hOut b (outAt (lastL f) b) (by rw [List.getElem?_map, hLb]; rfl) (by rw [hO.il]; exact hbl) (outAt_len hL1 hbl)
  have hT1 := fun q => hThr (b : Int) q
  have hcl := (hN.inn.code _ (List.mem_of_getElem? hB)).1
  have w0 := fun x => C12 f hN b 0 x hbl (by omega)
  have w1 := fun x => C12 f hN b (blkAt f b).code.length x hbl (by omega)
  have ein := fun x => in_want hN hbl x
  have eou := fun x => out_want hN hbl (Nat.le_refl _) x
  have eth := fun hn x => thr_want hN hB hn x
  have hx : 0 < (blkAt f b).code.length → (blkAt f b).code[(blkAt f b).code.length - 1]? = some (insAtF f b ((blkAt f b).code.length - 1)) := fun h => by
   rw [insAtF, List.getD_eq_getElem?_getD, List.getElem?_eq_getElem (by omega)]
   rfl
  have lin := (listL_le (u := idsU f) (s := insAt (lastL f) b))
  rw [insAt_len hL1 hbl] at lin
  have lou := (listL_le (u := idsU f) (s := outAt (lastL f) b))
  rw [outAt_len hL1 hbl] at lou
  generalize insAtF f b ((blkAt f b).code.length - 1) = X at eth hx
  generalize blkAt f b = B at hB hcl w1 eou eth hx
  rw [eLV] at hI1 hO1 hT1
  generalize listL (idsU f) (insAt (lastL f) b) = LI at hI1 ein lin
  generalize listL (idsU f) (outAt (lastL f) b) = LO at hO1 eou lou
  have hul := hO.ul
  have jI := fun x => inZ LI x (by omega)
  have jO := fun x => inZ LO x (by omega)
  simp only [ein] at jI
  simp only [eou] at jO
  unfold encFn at w0 w1
  simp -implicitDefEqProofs (maxSteps := 2000000) (disch := omega) only [↓reduceIte, go_sem, Int.reduceToNat, Nat.reduceAdd, Nat.reduceLeDiff, Nat.reduceEqDiff, Nat.reduceSub, Nat.reduceMul, reduceCtorEq]
  refine callL hI1 ?_
  simp -implicitDefEqProofs (maxSteps := 2000000) (disch := omega) only [↓reduceIte, go_sem, Int.reduceToNat, Nat.reduceAdd, Nat.reduceLeDiff, Nat.reduceEqDiff, Nat.reduceSub, Nat.reduceMul, reduceCtorEq]
  refine loopL (σ := Nat) (fun k => ⟨[(2, .int .i64 v), (3, .rp [.bool f.machine, .str f.name, .sl (f.regs.map encRg), .sl (f.params.map encO), .sl (f.blocks.map encBk)]), (7, .rp LV), (8, .int .i64 (b : Int)), (9, .sl (LI.map encN)), (10, .int .i64 (k : Int))], []⟩) (fun k => k ≤ f.regs.length) (fun k => f.regs.length - k) 0 (by simp -implicitDefEqProofs (maxSteps := 2000000) (disch := omega) only [↓reduceIte, go_sem, Int.reduceToNat, Nat.reduceAdd, Nat.reduceLeDiff, Nat.reduceEqDiff, Nat.reduceSub, Nat.reduceMul, reduceCtorEq]; rfl) (Nat.zero_le _) ?_
  intro k hk
  simp -implicitDefEqProofs (maxSteps := 2000000) (disch := omega) only [↓reduceIte, go_sem, Int.reduceToNat, Nat.reduceAdd, Nat.reduceLeDiff, Nat.reduceEqDiff, Nat.reduceSub, Nat.reduceMul, reduceCtorEq]
  refine ifD (fun c5 => ?_) (fun c5 => ?_)
  ·have hg : f.regs[k]? = some f.regs[k] := List.getElem?_eq_getElem (by omega)
   generalize f.regs[k] = g at hg
   have jI := jI g.id
   have jO := jO g.id
   have w0 := w0 g.id
   have w1 := w1 g.id
   have eth := fun hn => eth hn g.id
   rw [show ((0 : Nat) : Int) = 0 from rfl] at w0
   generalize wantB f (succF f.blocks) b 0 g.id = W0 at jI w0
   generalize wantB f (succF f.blocks) b B.code.length g.id = W1 at jO w1 eth
   simp -implicitDefEqProofs (maxSteps := 2000000) (disch := omega) only [↓reduceIte, go_sem, Int.reduceToNat, Nat.reduceAdd, Nat.reduceLeDiff, Nat.reduceEqDiff, Nat.reduceSub, Nat.reduceMul, reduceCtorEq, hg, encRg]
   refine callL jI ?_
   simp -implicitDefEqProofs (maxSteps := 2000000) (disch := omega) only [↓reduceIte, go_sem, Int.reduceToNat, Nat.reduceAdd, Nat.reduceLeDiff, Nat.reduceEqDiff, Nat.reduceSub, Nat.reduceMul, reduceCtorEq]
   refine callL w0 ?_
   simp -implicitDefEqProofs (maxSteps := 2000000) (disch := omega) only [↓reduceIte, go_sem, Int.reduceToNat, Nat.reduceAdd, Nat.reduceLeDiff, Nat.reduceEqDiff, Nat.reduceSub, Nat.reduceMul, reduceCtorEq]
   refine accL (by kernel_rfl) ?_
   have hWW : ∀ W : Bool, (W == W) = true := fun W => by cases W <;> rfl
   simp -implicitDefEqProofs (maxSteps := 2000000) (disch := omega) only [↓reduceIte, go_sem, Int.reduceToNat, Nat.reduceAdd, Nat.reduceLeDiff, Nat.reduceEqDiff, Nat.reduceSub, Nat.reduceMul, reduceCtorEq, hWW, hB, encBk]
   refine callL hO1 ?_
   simp -implicitDefEqProofs (maxSteps := 2000000) (disch := omega) only [↓reduceIte, go_sem, Int.reduceToNat, Nat.reduceAdd, Nat.reduceLeDiff, Nat.reduceEqDiff, Nat.reduceSub, Nat.reduceMul, reduceCtorEq, hWW, hB, encBk]
   refine callL jO ?_
   simp -implicitDefEqProofs (maxSteps := 2000000) (disch := omega) only [↓reduceIte, go_sem, Int.reduceToNat, Nat.reduceAdd, Nat.reduceLeDiff, Nat.reduceEqDiff, Nat.reduceSub, Nat.reduceMul, reduceCtorEq, hWW, hB, encBk]
   refine callL w1 ?_
   simp -implicitDefEqProofs (maxSteps := 2000000) (disch := omega) only [↓reduceIte, go_sem, Int.reduceToNat, Nat.reduceAdd, Nat.reduceLeDiff, Nat.reduceEqDiff, Nat.reduceSub, Nat.reduceMul, reduceCtorEq, hWW, hB, encBk]
   refine accL (by kernel_rfl) ?_
   simp -implicitDefEqProofs (maxSteps := 2000000) (disch := omega) only [↓reduceIte, go_sem, Int.reduceToNat, Nat.reduceAdd, Nat.reduceLeDiff, Nat.reduceEqDiff, Nat.reduceSub, Nat.reduceMul, reduceCtorEq, hWW, hB, encBk]
   refine ifD (fun c6 => ?_) (fun c6 => ?_)
   ·have hx := hx (by omega)
    have eth := eth (by omega)
    have hT1 := hT1 (((B.code.length - 1 : Nat)) : Int)
    have lth : (thrL f (idsU f) ((lastL f).map (·.2)) (b : Int) ((B.code.length - 1 : Nat) : Int)).length < 1000000 := by
     unfold thrL
     split
     ·simp
     ·refine Nat.lt_of_le_of_lt listL_le ?_
      unfold thrS
      rw [dstS_len, backS_len, outs_get, Int.toNat_natCast, outAt_len hL1 hbl]
      exact hul
    have jT := inZ (thrL f (idsU f) ((lastL f).map (·.2)) (b : Int) ((B.code.length - 1 : Nat) : Int)) g.id lth
    rw [eth] at jT
    unfold givesX at jT
    generalize thrL f (idsU f) ((lastL f).map (·.2)) (b : Int) ((B.code.length - 1 : Nat) : Int) = LT at hT1 jT
    have hwr : IntKind.i64.wrap ((B.code.length : Int) - 1) = ((B.code.length - 1 : Nat) : Int) := by rw [wrap64 (by omega) (by omega)]; omega
    have hzz : (B.code.length : Int) - 1 = ((B.code.length - 1 : Nat) : Int) := by omega
    simp -implicitDefEqProofs (maxSteps := 2000000) (disch := omega) only [↓reduceIte, go_sem, Int.reduceToNat, Nat.reduceAdd, Nat.reduceLeDiff, Nat.reduceEqDiff, Nat.reduceSub, Nat.reduceMul, reduceCtorEq, hB, encBk, hzz, hx, encIn]
    refine callL hT1 ?_
    simp -implicitDefEqProofs (maxSteps := 2000000) (disch := omega) only [↓reduceIte, go_sem, Int.reduceToNat, Nat.reduceAdd, Nat.reduceLeDiff, Nat.reduceEqDiff, Nat.reduceSub, Nat.reduceMul, reduceCtorEq, hB, encBk, hzz, hx, encIn]
    refine callL jT ?_
    simp -implicitDefEqProofs (maxSteps := 2000000) (disch := omega) only [↓reduceIte, go_sem, Int.reduceToNat, Nat.reduceAdd, Nat.reduceLeDiff, Nat.reduceEqDiff, Nat.reduceSub, Nat.reduceMul, reduceCtorEq, hB, encBk, hzz, hx, encIn]
    refine callL w1 ?_
    simp -implicitDefEqProofs (maxSteps := 2000000) (disch := omega) only [↓reduceIte, go_sem, Int.reduceToNat, Nat.reduceAdd, Nat.reduceLeDiff, Nat.reduceEqDiff, Nat.reduceSub, Nat.reduceMul, reduceCtorEq, hB, encBk, hzz, hx, encIn]
    refine ifB (fun e => ?_) (fun e => ?_)
    ·simp -implicitDefEqProofs (maxSteps := 2000000) (disch := omega) only [↓reduceIte, go_sem, Int.reduceToNat, Nat.reduceAdd, Nat.reduceLeDiff, Nat.reduceEqDiff, Nat.reduceSub, Nat.reduceMul, reduceCtorEq, e, encO]
     by_cases e1 : X.dst.kind = 1
     ·by_cases e2 : X.dst.n = g.id
      ·simp -implicitDefEqProofs (maxSteps := 2000000) (disch := omega) only [↓reduceIte, go_sem, Int.reduceToNat, Nat.reduceAdd, Nat.reduceLeDiff, Nat.reduceEqDiff, Nat.reduceSub, Nat.reduceMul, reduceCtorEq, e, e1, e2]
       refine accL (by kernel_rfl) ?_
       simp -implicitDefEqProofs (maxSteps := 2000000) (disch := omega) only [↓reduceIte, go_sem, Int.reduceToNat, Nat.reduceAdd, Nat.reduceLeDiff, Nat.reduceEqDiff, Nat.reduceSub, Nat.reduceMul, reduceCtorEq, e, e1, e2, decide_true, decide_false]
       refine ifB (fun q => ?_) (fun q => absurd q (by simp [e2]))
       simp -implicitDefEqProofs (maxSteps := 2000000) (disch := omega) only [↓reduceIte, go_sem, Int.reduceToNat, Nat.reduceAdd, Nat.reduceLeDiff, Nat.reduceEqDiff, Nat.reduceSub, Nat.reduceMul, reduceCtorEq]
       exact ⟨k + 1, rfl, by omega, by omega⟩
      ·simp -implicitDefEqProofs (maxSteps := 2000000) (disch := omega) only [↓reduceIte, go_sem, Int.reduceToNat, Nat.reduceAdd, Nat.reduceLeDiff, Nat.reduceEqDiff, Nat.reduceSub, Nat.reduceMul, reduceCtorEq, e, e1, e2]
       refine accL (by kernel_rfl) ?_
       simp -implicitDefEqProofs (maxSteps := 2000000) (disch := omega) only [↓reduceIte, go_sem, Int.reduceToNat, Nat.reduceAdd, Nat.reduceLeDiff, Nat.reduceEqDiff, Nat.reduceSub, Nat.reduceMul, reduceCtorEq, e, e1, e2, decide_true, decide_false]
       refine ifB (fun q => ?_) (fun q => absurd q (by simp [e2]))
       simp -implicitDefEqProofs (maxSteps := 2000000) (disch := omega) only [↓reduceIte, go_sem, Int.reduceToNat, Nat.reduceAdd, Nat.reduceLeDiff, Nat.reduceEqDiff, Nat.reduceSub, Nat.reduceMul, reduceCtorEq]
       exact ⟨k + 1, rfl, by omega, by omega⟩
     ·simp -implicitDefEqProofs (maxSteps := 2000000) (disch := omega) only [↓reduceIte, go_sem, Int.reduceToNat, Nat.reduceAdd, Nat.reduceLeDiff, Nat.reduceEqDiff, Nat.reduceSub, Nat.reduceMul, reduceCtorEq, e, e1]
      refine accL (by kernel_rfl) ?_
      simp -implicitDefEqProofs (maxSteps := 2000000) (disch := omega) only [↓reduceIte, go_sem, Int.reduceToNat, Nat.reduceAdd, Nat.reduceLeDiff, Nat.reduceEqDiff, Nat.reduceSub, Nat.reduceMul, reduceCtorEq, e, e1, decide_true, decide_false]
      exact ⟨k + 1, rfl, by omega, by omega⟩
    ·simp -implicitDefEqProofs (maxSteps := 2000000) (disch := omega) only [↓reduceIte, go_sem, Int.reduceToNat, Nat.reduceAdd, Nat.reduceLeDiff, Nat.reduceEqDiff, Nat.reduceSub, Nat.reduceMul, reduceCtorEq, e]
     refine accL (by kernel_rfl) ?_
     simp -implicitDefEqProofs (maxSteps := 2000000) (disch := omega) only [↓reduceIte, go_sem, Int.reduceToNat, Nat.reduceAdd, Nat.reduceLeDiff, Nat.reduceEqDiff, Nat.reduceSub, Nat.reduceMul, reduceCtorEq, e]
     exact ⟨k + 1, rfl, by omega, by omega⟩
   ·simp -implicitDefEqProofs (maxSteps := 2000000) (disch := omega) only [↓reduceIte, go_sem, Int.reduceToNat, Nat.reduceAdd, Nat.reduceLeDiff, Nat.reduceEqDiff, Nat.reduceSub, Nat.reduceMul, reduceCtorEq]
    exact ⟨k + 1, rfl, by omega, by omega⟩
  ·simp -implicitDefEqProofs (maxSteps := 2000000) (disch := omega) only [↓reduceIte, go_sem, Int.reduceToNat, Nat.reduceAdd, Nat.reduceLeDiff, Nat.reduceEqDiff, Nat.reduceSub, Nat.reduceMul, reduceCtorEq]
   exact ⟨b + 1, rfl, by omega, by omega⟩
 ·simp -implicitDefEqProofs (maxSteps := 2000000) (disch := omega) only [↓reduceIte, go_sem, Int.reduceToNat, Nat.reduceAdd, Nat.reduceLeDiff, Nat.reduceEqDiff, Nat.reduceSub, Nat.reduceMul, reduceCtorEq]
  refine callL hspR ?_
  simp -implicitDefEqProofs (maxSteps := 2000000) (disch := omega) only [↓reduceIte, go_sem, Int.reduceToNat, Nat.reduceAdd, Nat.reduceLeDiff, Nat.reduceEqDiff, Nat.reduceSub, Nat.reduceMul, reduceCtorEq]
  refine callL hsp ?_
  simp -implicitDefEqProofs (maxSteps := 2000000) (disch := omega) only [↓reduceIte, go_sem, Int.reduceToNat, Nat.reduceAdd, Nat.reduceLeDiff, Nat.reduceEqDiff, Nat.reduceSub, Nat.reduceMul, reduceCtorEq]
  have hInN := fun b h => C10_no f (idsU f) ((lastL f).map (·.1)) ((lastL f).map (·.2)) b h
  have hOutN := fun b h => C13_no f (idsU f) ((lastL f).map (·.1)) ((lastL f).map (·.2)) b h
  have hi1 := hInN (-1) (by simp [isL])
  have ho1 := hOutN (f.blocks.length : Int) (by simp [isL, hO.il])
  have ht1 := hThr 0 (-1)
  have hte : thrL f (idsU f) ((lastL f).map (·.2)) 0 (-1) = [] := by
   unfold thrL ofP
   rw [if_pos (Or.inl (by omega)), if_pos (by omega)]
  rw [hte] at ht1
  rw [eLV] at hi1 ho1 ht1
  refine loopL (σ := Nat) (fun k => ⟨[(3, .rp [.bool f.machine, .str f.name, .sl (f.regs.map encRg), .sl (f.params.map encO), .sl (f.blocks.map encBk)]), (7, .rp LV), (14, .sl (SP.map encSp)), (15, .sl (SP.map encSp)), (16, .int .i64 (k : Int))], []⟩) (fun k => k ≤ SP.length) (fun k => SP.length - k) 0 (by simp -implicitDefEqProofs (maxSteps := 2000000) (disch := omega) only [↓reduceIte, go_sem, Int.reduceToNat, Nat.reduceAdd, Nat.reduceLeDiff, Nat.reduceEqDiff, Nat.reduceSub, Nat.reduceMul, reduceCtorEq]; rfl) (Nat.zero_le _) ?_
  intro k hk
  simp -implicitDefEqProofs (maxSteps := 2000000) (disch := omega) only [↓reduceIte, go_sem, Int.reduceToNat, Nat.reduceAdd, Nat.reduceLeDiff, Nat.reduceEqDiff, Nat.reduceSub, Nat.reduceMul, reduceCtorEq]
  refine ifD (fun c5 => ?_) (fun c5 => ?_)
  ·have hg : SP[k]? = some SP[k] := List.getElem?_eq_getElem (by omega)
   generalize SP[k] = g at hg
   simp -implicitDefEqProofs (maxSteps := 2000000) (disch := omega) only [↓reduceIte, go_sem, Int.reduceToNat, Nat.reduceAdd, Nat.reduceLeDiff, Nat.reduceEqDiff, Nat.reduceSub, Nat.reduceMul, reduceCtorEq, hg, encSp]
   refine accL (by kernel_rfl) ?_
   simp -implicitDefEqProofs (maxSteps := 2000000) (disch := omega) only [↓reduceIte, go_sem, Int.reduceToNat, Nat.reduceAdd, Nat.reduceLeDiff, Nat.reduceEqDiff, Nat.reduceSub, Nat.reduceMul, reduceCtorEq, hg, encSp]
   exact ⟨k + 1, rfl, by omega, by omega⟩
  ·simp -implicitDefEqProofs (maxSteps := 2000000) (disch := omega) only [↓reduceIte, go_sem, Int.reduceToNat, Nat.reduceAdd, Nat.reduceLeDiff, Nat.reduceEqDiff, Nat.reduceSub, Nat.reduceMul, reduceCtorEq]
   refine callL hi1 ?_
   simp -implicitDefEqProofs (maxSteps := 2000000) (disch := omega) only [↓reduceIte, go_sem, Int.reduceToNat, Nat.reduceAdd, Nat.reduceLeDiff, Nat.reduceEqDiff, Nat.reduceSub, Nat.reduceMul, reduceCtorEq]
   refine callL ho1 ?_
   simp -implicitDefEqProofs (maxSteps := 2000000) (disch := omega) only [↓reduceIte, go_sem, Int.reduceToNat, Nat.reduceAdd, Nat.reduceLeDiff, Nat.reduceEqDiff, Nat.reduceSub, Nat.reduceMul, reduceCtorEq]
   refine callL ht1 ?_
   simp -implicitDefEqProofs (maxSteps := 2000000) (disch := omega) only [↓reduceIte, go_sem, Int.reduceToNat, Nat.reduceAdd, Nat.reduceLeDiff, Nat.reduceEqDiff, Nat.reduceSub, Nat.reduceMul, reduceCtorEq]
   refine callL hwk ?_
   simp -implicitDefEqProofs (maxSteps := 2000000) (disch := omega) only [↓reduceIte, go_sem, Int.reduceToNat, Nat.reduceAdd, Nat.reduceLeDiff, Nat.reduceEqDiff, Nat.reduceSub, Nat.reduceMul, reduceCtorEq]
   exact ⟨rfl, rfl⟩
end Go.Proofs.YtgbmneoeggdaoaaDoor.X
