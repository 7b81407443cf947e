/- The law LivePresent, walked. -/
import Derived.Test.YtgbmneoeggdaoaaGreatDoorXj
import Derived.Test.YtgbmneoeggdaoaaGreatDoorXe
namespace Go.Proofs.YtgbmneoeggdaoaaGreatDoor.X
open Go Go.AM Go.Proofs
open Nat (reduceAdd reduceLeDiff reduceEqDiff reduceSub reduceMul)
open Int (reduceToNat)
attribute [local go_sem ↓] w_skip w_lbl w_ops w_draw w_pre w_post w_alt w_seq w_cond w_block w_join w_loop w_exit w_ret w_scope w_rfunc l_nil l_cons th_n th_e th_r bk_n bk_r bk_e t_nil t_it t_call t_callg i_nil i_one i_grp s_nil s_cons c_call c_callg e_rar e_dynB e_mv e_nil e_dyn e_nilb e_frz o_mov o_bin o_eq o_un o_conv o_len o_slen o_idx o_aix o_fad o_load o_store o_boxp o_boxo o_boxm o_alloc o_allocm o_alloca o_nilarr o_build o_bslp o_bslo o_slc o_sslc o_slc3 o_sidx o_mkfn o_mkmv o_calle o_bslr o_ridx o_rload o_rapp o_vidx o_ext o_pick o_callf o_callb o_appd o_clear o_mxn o_field o_nilc o_make o_makeb o_buildm o_boxg o_mkif o_tass o_eqs o_callo o_callx k_int k_str k_bool k_grb k_grt k_some k_none k_rar k_arr k_lens k_lenf k_lenh k_lenb k_idxb k_idxs k_idxf k_idxh k_ld k_loadp k_loadr k_loade k_storer k_storee k_oin k_ois k_slcs k_slcf k_slch k_slc3s k_slc3f k_slc3h k_app2 k_apps k_appf k_apph k_cals k_cald k_cali k_cnb k_cna k_esn k_esc k_efn k_efc k_esh b_add b_sub b_mul b_quo b_rem b_and b_or b_xor b_andNot b_eql b_neq b_lss b_leq b_gtr b_geq b_shl b_shr b_seq b_sne b_slt b_sad q_bool q_str q_nil q_nilf u_not u_neg u_xor f_ret f_nor v_r v_c v_g v_reg v_ob v_set v_put v_so v_sn v_pn v_pc g_nil d_nil p_nil m_mv m_fr z_nil z_cons z_an z_ac g_cons d_cons p_cons y_mov y_bin y_eq y_un y_conv y_len y_slen y_idx y_aix y_fad y_load y_store y_boxp y_boxo y_boxm y_alloc y_alloca y_allocm y_nilarr y_build y_bslp y_bslo y_slc y_sslc y_slc3 y_sidx y_mkfn y_ext y_pick y_callf y_callb y_appd y_clear y_mxn y_field y_nilc y_make y_makeb y_buildm y_boxg y_mkif y_tass y_eqs y_callo y_mkmv y_callx y_vidx y_bslr y_ridx y_rload y_rapp y_calle nb_if
attribute [local go_sem] nbd VL_mk VL2_mk If_t If_f If_not If_and If_or If_dt If_df If_et If_ef If_ne Ck_t Ck_h Opt_s ld_a ld_c lm_a lm_c renL ren keepR renA idxM invL getObs mapOb renOb allNone putAll fzR fzO fz fzL fzOb fzB frzOk upFrom mapR resOne resA cellsOf oneA oneAL isP isPL okSt kRows kParts fillA setAt bor bor0 bor1 bor2 borC borI key0 key1 key2 keysA fillM cellsM cellM unif ptrA ifOk kPartsM getObsM allNoneM zipU scal0 scalar eqC evNil evNilF memK keyX hideM xbor scal1 scalX scalOb bndA mkMag showM lendV hideV hideR hideOb hideL hideO showL backO noneO mapA List.map_cons List.map_nil List.cons_append List.nil_append List.append_nil List.drop_zero List.drop_succ_cons List.drop_nil List.take_succ_cons List.take_zero List.take_nil List.length_cons List.length_nil List.length_map List.getElem?_map Option.map_some Option.map_none Int.toNat_natCast Int.toNat_zero Int.toNat_one Int.natCast_nonneg List.flatMap_cons List.flatMap_nil List.all_cons List.all_nil List.any_cons List.any_nil Bool.or_false Bool.false_or Bool.or_true Bool.true_or Bool.and_true Bool.true_and Bool.and_false Bool.false_and Bool.not_true Bool.not_false beq_self_eq_true nb_self all_nil List.forall_mem_cons tk_map tk_app bs_self bs_dec bq_t bq_f Bool.not_not decide_true decide_false Bool.not_not and_self and_true true_and eq_self List.reverse_cons List.reverse_nil List.getElem?_cons_zero List.getElem?_cons_succ cond_true cond_false List.set_cons_zero List.set_cons_succ Nat.zero_add Nat.add_zero if_true if_false ite_true ite_false implies_true wrap64 wrap8
open Go.Bits
set_option linter.unusedVariables false
set_option linter.unusedSimpArgs false
set_option maxRecDepth 10000
/-- The classes of a list's registers, told. -/
theorem cnt_step {f : Fnc} (h : MkOk f) {l : List Int} (hl : ∀ x ∈ l, knownF f x = true) {k : Nat} {x : Int} (hx : l[k]? = some x) :
  ((clsO f.regs x).getD (-1) = 0 ∧ cntL f 0 (l.take (k + 1)) = cntL f 0 (l.take k) + 1 ∧ cntL f 1 (l.take (k + 1)) = cntL f 1 (l.take k)) ∨
  ((clsO f.regs x).getD (-1) = 1 ∧ cntL f 0 (l.take (k + 1)) = cntL f 0 (l.take k) ∧ cntL f 1 (l.take (k + 1)) = cntL f 1 (l.take k) + 1) := by
 have hk := hl x (List.mem_of_getElem? hx)
 rw [cntL_succ hx, cntL_succ hx]
 rcases h.cls x hk with e | e
 ·left
  rw [e]
  simp
 ·right
  rw [e]
  simp
set_option maxHeartbeats 8000000 in
theorem C3 (d : Drf) (hd : d.Ok) (hB : d.blocks.length ≤ 140737488355328) (hC : ∀ b ∈ d.blocks, b.code.length ≤ 140737488355328) : Ctr Tryz.prog 3 [.agg (encDr d)] [] (ret [.bool true]) := by
 have hmn := manyC d hB hC
 apply ctr_b A3_ok rfl (Nat.le_of_ble_eq_true rfl)
 unfold A3
 simp only [initL, Nat.reduceAdd]
 simp -implicitDefEqProofs (disch := omega) only [↓reduceIte, go_sem, reduceToNat, reduceAdd, reduceLeDiff, reduceEqDiff, reduceSub, reduceMul, reduceCtorEq, encDr]
 refine callL hmn ?_
 simp -implicitDefEqProofs (disch := omega) only [↓reduceIte, go_sem, reduceToNat, reduceAdd, reduceLeDiff, reduceEqDiff, reduceSub, reduceMul, reduceCtorEq, encDr]
 refine ifB (fun e0 => ?_) (fun e0 => ?_)
 ·simp -implicitDefEqProofs (disch := omega) only [↓reduceIte, go_sem, reduceToNat, reduceAdd, reduceLeDiff, reduceEqDiff, reduceSub, reduceMul, reduceCtorEq]
  refine callL C6 ?_
  simp -implicitDefEqProofs (disch := omega) only [↓reduceIte, go_sem, reduceToNat, reduceAdd, reduceLeDiff, reduceEqDiff, reduceSub, reduceMul, reduceCtorEq]
  exact ⟨rfl, rfl⟩
 have hno := many_no e0
 have hmk := C7 d hd hno.1 (fun b hb => by have := hno.2 b hb; omega)
 have hM := makeP_mk hno.1 (fun b hb => by have := hno.2 b hb; omega)
 generalize makeP d = f at hmk hM
 have hN := hM.new
 have hO := LvOk.of hN
 have hnw := C8 f hN
 have hPr := fun p hp => C9 f (idsU f) ((lastL f).map (·.1)) ((lastL f).map (·.2)) p hO hp
 have hIn := fun b s hb hn => C13 f (idsU f) ((lastL f).map (·.1)) ((lastL f).map (·.2)) (idsU f).length b s hb hn rfl hO.ul
 have hOut := fun b s hb hil hn => C15 f (idsU f) ((lastL f).map (·.1)) ((lastL f).map (·.2)) (idsU f).length b s hb hil hn rfl hO.ul
 have hMo := fun c => C16 f (idsU f) ((lastL f).map (·.1)) ((lastL f).map (·.2)) c hO (by have := hN.rl; omega)
 have hCl := fun v => C12 f v hN.rl
 have hFi := fun l => C14 f l (by have := hN.pt.len; omega)
 have hple := fun p => presL_le hO (p := p)
 have hml := fun c k => mostTo_le hO (c := c) (k := k)
 have hul := hO.ul
 have hsum := hN.pt.sum
 have hbl := hN.pt.len
 have ⟨LV, eLV⟩ : ∃ LV, lvP f (idsU f) ((lastL f).map (·.1)) ((lastL f).map (·.2)) = .rp LV := ⟨_, rfl⟩
 rw [eLV] at hnw hPr hIn hOut hMo
 unfold encDr at hmk
 unfold encFn at hmk hnw hCl hFi
 simp -implicitDefEqProofs (disch := omega) only [↓reduceIte, go_sem, reduceToNat, reduceAdd, reduceLeDiff, reduceEqDiff, reduceSub, reduceMul, reduceCtorEq]
 refine callL hmk ?_
 simp -implicitDefEqProofs (disch := omega) only [↓reduceIte, go_sem, reduceToNat, reduceAdd, reduceLeDiff, reduceEqDiff, reduceSub, reduceMul, reduceCtorEq]
 refine callL hnw ?_
 simp -implicitDefEqProofs (disch := omega) only [↓reduceIte, go_sem, reduceToNat, reduceAdd, reduceLeDiff, reduceEqDiff, reduceSub, reduceMul, reduceCtorEq]
 have hms : ∀ c k, mostTo f (idsU f) ((lastL f).map (·.2)) c (k + 1) = max (mostTo f (idsU f) ((lastL f).map (·.2)) c k) (cntL f c (presL f (idsU f) ((lastL f).map (·.2)) (k : Int))) := fun _ _ => rfl
 have hm0 : ∀ c, mostTo f (idsU f) ((lastL f).map (·.2)) c 0 = 0 := fun _ => rfl
 have hmo : ∀ c, mostL f (idsU f) ((lastL f).map (·.2)) c = mostTo f (idsU f) ((lastL f).map (·.2)) c (2 * sumTo f.blocks f.blocks.length) := fun _ => rfl
 have hkn := @pres_known f hN
 have hus := @uses_pres f hM
 have hds := @dst_pres f hM
 have hsc := @succ_pres f hM
 generalize mostTo f (idsU f) ((lastL f).map (·.2)) = mt at hms hm0 hmo hml
 generalize hpl : presL f (idsU f) ((lastL f).map (·.2)) = pl at hPr hms hkn hus hds hsc hple
 refine loopL (σ := Nat) (fun b => ⟨[(3, .rp [.bool f.machine, .str f.name, .sl (f.regs.map encRg), .sl (f.params.map encO), .sl (f.blocks.map encBk)]), (4, .rp LV), (5, .int .i64 (sumTo f.blocks b : Int)), (6, .ref 6 0), (7, .int .i64 (b : Int))], [(6, .pbox [.int .i64 (mt 0 (2 * sumTo f.blocks b) : Int), .int .i64 (mt 1 (2 * sumTo f.blocks b) : Int)])]⟩)
  (fun b => b ≤ f.blocks.length) (fun b => f.blocks.length - b) 0 (by simp -implicitDefEqProofs (disch := omega) only [↓reduceIte, go_sem, reduceToNat, reduceAdd, reduceLeDiff, reduceEqDiff, reduceSub, reduceMul, reduceCtorEq]; rw [show sumTo f.blocks 0 = 0 from rfl, Nat.mul_zero, hm0, hm0]; rfl) (Nat.zero_le _) ?_
 intro b hb
 have hmx := sumTo_max (bs := f.blocks) (b := b)
 have hmx2 := sumTo_max (bs := f.blocks) (b := b + 1)
 simp -implicitDefEqProofs (disch := omega) only [↓reduceIte, go_sem, reduceToNat, reduceAdd, reduceLeDiff, reduceEqDiff, reduceSub, reduceMul, reduceCtorEq]
 refine ifD (fun c => ?_) (fun c => ?_)
 ·have hbn : b < f.blocks.length := by omega
  have hB : f.blocks[b]? = some (blkAt f b) := by rw [blkAt, List.getD_eq_getElem?_getD, List.getElem?_eq_getElem hbn]; rfl
  have hsu := sumTo_succ hB
  have hne := hM.ne _ (List.mem_of_getElem? hB)
  have hfew := hM.few _ (List.mem_of_getElem? hB)
  have hla := hM.last b _ hB
  have hl3 := hM.lab3 b _ hB
  have hcl := (hN.inn.code _ (List.mem_of_getElem? hB)).1
  have hus := fun i => @hus b i _ hB
  have hds := fun i => @hds b i _ hB
  have hsc := fun s => @hsc b s _ hB
  have hxg := fun i hi => (insAt_get hB (i := i) hi).1
  generalize blkAt f b = B at hB hsu hne hfew hla hl3 hcl hus hds hsc hxg
  generalize hsb : sumTo f.blocks b = sb at hmx hsu hus hds hsc ⊢
  simp -implicitDefEqProofs (disch := omega) only [↓reduceIte, go_sem, reduceToNat, reduceAdd, reduceLeDiff, reduceEqDiff, reduceSub, reduceMul, reduceCtorEq, hB, encBk]
  refine loopL (σ := Nat) (fun i => ⟨[(3, .rp [.bool f.machine, .str f.name, .sl (f.regs.map encRg), .sl (f.params.map encO), .sl (f.blocks.map encBk)]), (4, .rp LV), (5, .int .i64 ((sb + i : Nat) : Int)), (6, .ref 6 0), (7, .int .i64 (b : Int)), (8, .sl (B.code.map encIn)), (9, .int .i64 (i : Int))], [(6, .pbox [.int .i64 (mt 0 (2 * (sb + i)) : Int), .int .i64 (mt 1 (2 * (sb + i)) : Int)])]⟩)
   (fun i => i ≤ B.code.length) (fun i => B.code.length - i) 0 (by simp -implicitDefEqProofs (disch := omega) only [↓reduceIte, go_sem, reduceToNat, reduceAdd, reduceLeDiff, reduceEqDiff, reduceSub, reduceMul, reduceCtorEq]; simp) (Nat.zero_le _) ?_
  intro i hi
  simp -implicitDefEqProofs (disch := omega) only [↓reduceIte, go_sem, reduceToNat, reduceAdd, reduceLeDiff, reduceEqDiff, reduceSub, reduceMul, reduceCtorEq]
  refine ifD (fun c2 => ?_) (fun c2 => ?_)
  ·have hil : i < B.code.length := by omega
   have hx := hxg i hil
   have hus := fun u => @hus i hil u
   have hds := hds i hil
   have hfx := hfew _ (List.mem_of_getElem? hx)
   generalize insAtF f b i = x at hx hus hds hfx
   have hU := C10 x (by omega)
   have hul3 : (usesX x).length ≤ 3 := by
    have := usesS_len (l := x.args) (out := [])
    simp only [List.length_nil] at this
    show (x.args.foldl usesS []).length ≤ 3
    omega
   have hw1 : IntKind.i64.wrap (2 * ((sb + i : Nat) : Int)) = 2 * ((sb + i : Nat) : Int) := wrap64 (by omega) (by omega)
   have hw2 : IntKind.i64.wrap (2 * ((sb + i : Nat) : Int) + 1) = 2 * ((sb + i : Nat) : Int) + 1 := wrap64 (by omega) (by omega)
   have hP1 := hPr (2 * ((sb + i : Nat) : Int)) (by omega)
   have hP2 := hPr (2 * ((sb + i : Nat) : Int) + 1) (by omega)
   have hk1 := @hkn (2 * ((sb + i : Nat) : Int))
   have hk2 := @hkn (2 * ((sb + i : Nat) : Int) + 1)
   have hl1 := hple (2 * ((sb + i : Nat) : Int))
   have hl2 := hple (2 * ((sb + i : Nat) : Int) + 1)
   have hma := fun c => hms c (2 * (sb + i))
   have hmb := fun c => hms c (2 * (sb + i) + 1)
   rw [show ((2 * (sb + i) : Nat) : Int) = 2 * ((sb + i : Nat) : Int) by omega] at hma
   rw [show ((2 * (sb + i) + 1 : Nat) : Int) = 2 * ((sb + i : Nat) : Int) + 1 by omega] at hmb
   generalize pl (2 * ((sb + i : Nat) : Int)) = PA at hP1 hk1 hl1 hma hus
   generalize pl (2 * ((sb + i : Nat) : Int) + 1) = PB at hP2 hk2 hl2 hmb hds
   have jA := fun v => inZ PA v (by omega)
   have jB := fun v => inZ PB v (by omega)
   unfold encIn at hU
   simp -implicitDefEqProofs (disch := omega) only [↓reduceIte, go_sem, reduceToNat, reduceAdd, reduceLeDiff, reduceEqDiff, reduceSub, reduceMul, reduceCtorEq, hw1]
   refine callL hP1 ?_
   simp -implicitDefEqProofs (disch := omega) only [↓reduceIte, go_sem, reduceToNat, reduceAdd, reduceLeDiff, reduceEqDiff, reduceSub, reduceMul, reduceCtorEq, hx, encIn]
   refine callL hU ?_
   simp -implicitDefEqProofs (disch := omega) only [↓reduceIte, go_sem, reduceToNat, reduceAdd, reduceLeDiff, reduceEqDiff, reduceSub, reduceMul, reduceCtorEq]
   have hst : ∀ r1 r2 r3 r4 r5 : List (Nat × AV), True := fun _ _ _ _ _ => trivial
   refine loopL (σ := Nat) (fun k => ⟨[(3, .rp [.bool f.machine, .str f.name, .sl (f.regs.map encRg), .sl (f.params.map encO), .sl (f.blocks.map encBk)]), (4, .rp LV), (5, .int .i64 ((sb + i : Nat) : Int)), (6, .ref 6 0), (7, .int .i64 (b : Int)), (8, .sl (B.code.map encIn)), (9, .int .i64 (i : Int)), (10, .sl (PA.map encN)), (11, .sl ((usesX x).map encN)), (12, .int .i64 (k : Int))], [(6, .pbox [.int .i64 (mt 0 (2 * (sb + i)) : Int), .int .i64 (mt 1 (2 * (sb + i)) : Int)])]⟩)
    (fun k => k ≤ (usesX x).length) (fun k => (usesX x).length - k) 0 (by simp -implicitDefEqProofs (disch := omega) only [↓reduceIte, go_sem, reduceToNat, reduceAdd, reduceLeDiff, reduceEqDiff, reduceSub, reduceMul, reduceCtorEq]; rfl) (Nat.zero_le _) ?_
   intro k hk
   simp -implicitDefEqProofs (disch := omega) only [↓reduceIte, go_sem, reduceToNat, reduceAdd, reduceLeDiff, reduceEqDiff, reduceSub, reduceMul, reduceCtorEq]
   refine ifD (fun c3 => ?_) (fun c3 => ?_)
   ·have hg : (usesX x)[k]? = some (usesX x)[k] := List.getElem?_eq_getElem (by omega)
    have hmem := hus _ (List.mem_of_getElem? hg)
    generalize (usesX x)[k] = u at hg hmem
    have jA := jA u
    rw [decide_eq_true hmem] at jA
    simp -implicitDefEqProofs (disch := omega) only [↓reduceIte, go_sem, reduceToNat, reduceAdd, reduceLeDiff, reduceEqDiff, reduceSub, reduceMul, reduceCtorEq, hg, encN]
    refine callL jA ?_
    simp -implicitDefEqProofs (disch := omega) only [↓reduceIte, go_sem, reduceToNat, reduceAdd, reduceLeDiff, reduceEqDiff, reduceSub, reduceMul, reduceCtorEq]
    exact ⟨k + 1, rfl, by omega, by omega⟩
   ·simp -implicitDefEqProofs (disch := omega) only [↓reduceIte, go_sem, reduceToNat, reduceAdd, reduceLeDiff, reduceEqDiff, reduceSub, reduceMul, reduceCtorEq]
    have hwn : IntKind.i64.wrap (((sb + i : Nat) : Int) + 1) = ((sb + (i + 1) : Nat) : Int) := by rw [wrap64 (by omega) (by omega)]; omega
    refine callL hP2 ?_
    simp -implicitDefEqProofs (disch := omega) only [↓reduceIte, go_sem, reduceToNat, reduceAdd, reduceLeDiff, reduceEqDiff, reduceSub, reduceMul, reduceCtorEq, hx, encIn]
    have hboth : ∀ j, j < 2 → ∃ R : List Int, ([[.sl (PA.map encN)], [.sl (PB.map encN)]] : List (List AV))[j]? = some [.sl (R.map encN)] ∧ (∀ x ∈ R, knownF f x = true) ∧ R.length < 1000000 ∧ ∀ c, mt c (2 * (sb + i) + j + 1) = max (mt c (2 * (sb + i) + j)) (cntL f c R) := fun j hj => by
     match j, hj with
     | 0, _ => exact ⟨PA, rfl, fun v hv => hk1 hv, by omega, hma⟩
     | 1, _ => exact ⟨PB, rfl, fun v hv => hk2 hv, by omega, hmb⟩
    by_cases hdk : x.dst.kind = 1
    ·have hmem := hds hdk
     have jB1 := jB x.dst.n
     rw [decide_eq_true hmem] at jB1
     simp -implicitDefEqProofs (disch := omega) only [↓reduceIte, go_sem, reduceToNat, reduceAdd, reduceLeDiff, reduceEqDiff, reduceSub, reduceMul, reduceCtorEq, hx, encIn, hdk]
     refine callL jB1 ?_
     simp -implicitDefEqProofs (disch := omega) only [↓reduceIte, go_sem, reduceToNat, reduceAdd, reduceLeDiff, reduceEqDiff, reduceSub, reduceMul, reduceCtorEq]
     refine loopL (σ := Nat) (fun j => ⟨[(3, .rp [.bool f.machine, .str f.name, .sl (f.regs.map encRg), .sl (f.params.map encO), .sl (f.blocks.map encBk)]), (4, .rp LV), (5, .int .i64 ((sb + i : Nat) : Int)), (6, .ref 6 0), (7, .int .i64 (b : Int)), (8, .sl (B.code.map encIn)), (9, .int .i64 (i : Int)), (14, .sl [[.sl (PA.map encN)], [.sl (PB.map encN)]]), (15, .int .i64 (j : Int))], [(6, .pbox [.int .i64 (mt 0 (2 * (sb + i) + j) : Int), .int .i64 (mt 1 (2 * (sb + i) + j) : Int)])]⟩)
      (fun j => j ≤ 2) (fun j => 2 - j) 0 (by simp -implicitDefEqProofs (disch := omega) only [↓reduceIte, go_sem, reduceToNat, reduceAdd, reduceLeDiff, reduceEqDiff, reduceSub, reduceMul, reduceCtorEq]; rfl) (Nat.zero_le _) ?_
     intro j hj
     simp -implicitDefEqProofs (disch := omega) only [↓reduceIte, go_sem, reduceToNat, reduceAdd, reduceLeDiff, reduceEqDiff, reduceSub, reduceMul, reduceCtorEq]
     refine ifD (fun c4 => ?_) (fun c4 => ?_)
     ·have ⟨R, hR1, hR2, hR3, hR4⟩ := hboth j (by omega)
      simp -implicitDefEqProofs (disch := omega) only [↓reduceIte, go_sem, reduceToNat, reduceAdd, reduceLeDiff, reduceEqDiff, reduceSub, reduceMul, reduceCtorEq, hR1]
      refine loopL (σ := Nat) (fun k => ⟨[(3, .rp [.bool f.machine, .str f.name, .sl (f.regs.map encRg), .sl (f.params.map encO), .sl (f.blocks.map encBk)]), (4, .rp LV), (5, .int .i64 ((sb + i : Nat) : Int)), (6, .ref 6 0), (7, .int .i64 (b : Int)), (8, .sl (B.code.map encIn)), (9, .int .i64 (i : Int)), (14, .sl [[.sl (PA.map encN)], [.sl (PB.map encN)]]), (15, .int .i64 (j : Int)), (16, .ref 16 0), (17, .int .i64 (k : Int))], [(6, .pbox [.int .i64 (mt 0 (2 * (sb + i) + j) : Int), .int .i64 (mt 1 (2 * (sb + i) + j) : Int)]), (16, .pbox [.int .i64 (cntL f 0 (R.take k) : Int), .int .i64 (cntL f 1 (R.take k) : Int)])]⟩)
       (fun k => k ≤ R.length) (fun k => R.length - k) 0 (by simp -implicitDefEqProofs (disch := omega) only [↓reduceIte, go_sem, reduceToNat, reduceAdd, reduceLeDiff, reduceEqDiff, reduceSub, reduceMul, reduceCtorEq]; rfl) (Nat.zero_le _) ?_
      intro k hk
      simp -implicitDefEqProofs (disch := omega) only [↓reduceIte, go_sem, reduceToNat, reduceAdd, reduceLeDiff, reduceEqDiff, reduceSub, reduceMul, reduceCtorEq, hR1]
      refine ifD (fun c5 => ?_) (fun c5 => ?_)
      ·have hg : R[k]? = some R[k] := List.getElem?_eq_getElem (by omega)
       have hst := cnt_step hM hR2 hg
       have hc0 := cntL_le (f := f) (c := 0) (l := R) (k := k)
       have hc1 := cntL_le (f := f) (c := 1) (l := R) (k := k)
       generalize R[k] = v at hg hst
       have hCv := hCl v
       simp -implicitDefEqProofs (disch := omega) only [↓reduceIte, go_sem, reduceToNat, reduceAdd, reduceLeDiff, reduceEqDiff, reduceSub, reduceMul, reduceCtorEq, hR1, hg, encN]
       refine callL hCv ?_
       rcases hst with ⟨h1, h2, h3⟩ | ⟨h1, h2, h3⟩
       ·simp -implicitDefEqProofs (disch := omega) only [↓reduceIte, go_sem, reduceToNat, reduceAdd, reduceLeDiff, reduceEqDiff, reduceSub, reduceMul, reduceCtorEq, h1, hR1, hg, encN]
        refine accL (by kernel_rfl) ?_
        simp -implicitDefEqProofs (disch := omega) only [↓reduceIte, go_sem, reduceToNat, reduceAdd, reduceLeDiff, reduceEqDiff, reduceSub, reduceMul, reduceCtorEq, h1]
        exact ⟨k + 1, by rw [h2, h3]; rfl, by omega, by omega⟩
       ·simp -implicitDefEqProofs (disch := omega) only [↓reduceIte, go_sem, reduceToNat, reduceAdd, reduceLeDiff, reduceEqDiff, reduceSub, reduceMul, reduceCtorEq, h1, hR1, hg, encN]
        refine accL (by kernel_rfl) ?_
        simp -implicitDefEqProofs (disch := omega) only [↓reduceIte, go_sem, reduceToNat, reduceAdd, reduceLeDiff, reduceEqDiff, reduceSub, reduceMul, reduceCtorEq, h1]
        exact ⟨k + 1, by rw [h2, h3]; rfl, by omega, by omega⟩
      ·have hkR : R.take k = R := List.take_of_length_le (by omega)
       rw [hkR]
       simp -implicitDefEqProofs (disch := omega) only [↓reduceIte, go_sem, reduceToNat, reduceAdd, reduceLeDiff, reduceEqDiff, reduceSub, reduceMul, reduceCtorEq]
       refine accL (by kernel_rfl) ?_
       simp -implicitDefEqProofs (disch := omega) only [↓reduceIte, go_sem, reduceToNat, reduceAdd, reduceLeDiff, reduceEqDiff, reduceSub, reduceMul, reduceCtorEq]
       have hmxx : ∀ c, (if (cntL f c R : Int) > (mt c (2 * (sb + i) + j) : Int) then (cntL f c R : Int) else (mt c (2 * (sb + i) + j) : Int)) = ((mt c (2 * (sb + i) + j + 1) : Nat) : Int) := fun c => by
        rw [hR4 c]
        split
        ·omega
        ·omega
       exact ⟨j + 1, by rw [hmxx 0, hmxx 1]; rfl, by omega, by omega⟩
     ·have hj2 : j = 2 := by omega
      simp -implicitDefEqProofs (disch := omega) only [↓reduceIte, go_sem, reduceToNat, reduceAdd, reduceLeDiff, reduceEqDiff, reduceSub, reduceMul, reduceCtorEq, hwn]
      exact ⟨i + 1, by rw [hj2, show 2 * (sb + (i + 1)) = 2 * (sb + i) + 2 by omega]; rfl, by omega, by omega⟩
    ·simp -implicitDefEqProofs (disch := omega) only [↓reduceIte, go_sem, reduceToNat, reduceAdd, reduceLeDiff, reduceEqDiff, reduceSub, reduceMul, reduceCtorEq, hx, encIn, hdk]
     refine loopL (σ := Nat) (fun j => ⟨[(3, .rp [.bool f.machine, .str f.name, .sl (f.regs.map encRg), .sl (f.params.map encO), .sl (f.blocks.map encBk)]), (4, .rp LV), (5, .int .i64 ((sb + i : Nat) : Int)), (6, .ref 6 0), (7, .int .i64 (b : Int)), (8, .sl (B.code.map encIn)), (9, .int .i64 (i : Int)), (14, .sl [[.sl (PA.map encN)], [.sl (PB.map encN)]]), (15, .int .i64 (j : Int))], [(6, .pbox [.int .i64 (mt 0 (2 * (sb + i) + j) : Int), .int .i64 (mt 1 (2 * (sb + i) + j) : Int)])]⟩)
      (fun j => j ≤ 2) (fun j => 2 - j) 0 (by simp -implicitDefEqProofs (disch := omega) only [↓reduceIte, go_sem, reduceToNat, reduceAdd, reduceLeDiff, reduceEqDiff, reduceSub, reduceMul, reduceCtorEq]; rfl) (Nat.zero_le _) ?_
     intro j hj
     simp -implicitDefEqProofs (disch := omega) only [↓reduceIte, go_sem, reduceToNat, reduceAdd, reduceLeDiff, reduceEqDiff, reduceSub, reduceMul, reduceCtorEq]
     refine ifD (fun c4 => ?_) (fun c4 => ?_)
     ·have ⟨R, hR1, hR2, hR3, hR4⟩ := hboth j (by omega)
      simp -implicitDefEqProofs (disch := omega) only [↓reduceIte, go_sem, reduceToNat, reduceAdd, reduceLeDiff, reduceEqDiff, reduceSub, reduceMul, reduceCtorEq, hR1]
      refine loopL (σ := Nat) (fun k => ⟨[(3, .rp [.bool f.machine, .str f.name, .sl (f.regs.map encRg), .sl (f.params.map encO), .sl (f.blocks.map encBk)]), (4, .rp LV), (5, .int .i64 ((sb + i : Nat) : Int)), (6, .ref 6 0), (7, .int .i64 (b : Int)), (8, .sl (B.code.map encIn)), (9, .int .i64 (i : Int)), (14, .sl [[.sl (PA.map encN)], [.sl (PB.map encN)]]), (15, .int .i64 (j : Int)), (16, .ref 16 0), (17, .int .i64 (k : Int))], [(6, .pbox [.int .i64 (mt 0 (2 * (sb + i) + j) : Int), .int .i64 (mt 1 (2 * (sb + i) + j) : Int)]), (16, .pbox [.int .i64 (cntL f 0 (R.take k) : Int), .int .i64 (cntL f 1 (R.take k) : Int)])]⟩)
       (fun k => k ≤ R.length) (fun k => R.length - k) 0 (by simp -implicitDefEqProofs (disch := omega) only [↓reduceIte, go_sem, reduceToNat, reduceAdd, reduceLeDiff, reduceEqDiff, reduceSub, reduceMul, reduceCtorEq]; rfl) (Nat.zero_le _) ?_
      intro k hk
      simp -implicitDefEqProofs (disch := omega) only [↓reduceIte, go_sem, reduceToNat, reduceAdd, reduceLeDiff, reduceEqDiff, reduceSub, reduceMul, reduceCtorEq, hR1]
      refine ifD (fun c5 => ?_) (fun c5 => ?_)
      ·have hg : R[k]? = some R[k] := List.getElem?_eq_getElem (by omega)
       have hst := cnt_step hM hR2 hg
       have hc0 := cntL_le (f := f) (c := 0) (l := R) (k := k)
       have hc1 := cntL_le (f := f) (c := 1) (l := R) (k := k)
       generalize R[k] = v at hg hst
       have hCv := hCl v
       simp -implicitDefEqProofs (disch := omega) only [↓reduceIte, go_sem, reduceToNat, reduceAdd, reduceLeDiff, reduceEqDiff, reduceSub, reduceMul, reduceCtorEq, hR1, hg, encN]
       refine callL hCv ?_
       rcases hst with ⟨h1, h2, h3⟩ | ⟨h1, h2, h3⟩
       ·simp -implicitDefEqProofs (disch := omega) only [↓reduceIte, go_sem, reduceToNat, reduceAdd, reduceLeDiff, reduceEqDiff, reduceSub, reduceMul, reduceCtorEq, h1, hR1, hg, encN]
        refine accL (by kernel_rfl) ?_
        simp -implicitDefEqProofs (disch := omega) only [↓reduceIte, go_sem, reduceToNat, reduceAdd, reduceLeDiff, reduceEqDiff, reduceSub, reduceMul, reduceCtorEq, h1]
        exact ⟨k + 1, by rw [h2, h3]; rfl, by omega, by omega⟩
       ·simp -implicitDefEqProofs (disch := omega) only [↓reduceIte, go_sem, reduceToNat, reduceAdd, reduceLeDiff, reduceEqDiff, reduceSub, reduceMul, reduceCtorEq, h1, hR1, hg, encN]
        refine accL (by kernel_rfl) ?_
        simp -implicitDefEqProofs (disch := omega) only [↓reduceIte, go_sem, reduceToNat, reduceAdd, reduceLeDiff, reduceEqDiff, reduceSub, reduceMul, reduceCtorEq, h1]
        exact ⟨k + 1, by rw [h2, h3]; rfl, by omega, by omega⟩
      ·have hkR : R.take k = R := List.take_of_length_le (by omega)
       rw [hkR]
       simp -implicitDefEqProofs (disch := omega) only [↓reduceIte, go_sem, reduceToNat, reduceAdd, reduceLeDiff, reduceEqDiff, reduceSub, reduceMul, reduceCtorEq]
       refine accL (by kernel_rfl) ?_
       simp -implicitDefEqProofs (disch := omega) only [↓reduceIte, go_sem, reduceToNat, reduceAdd, reduceLeDiff, reduceEqDiff, reduceSub, reduceMul, reduceCtorEq]
       have hmxx : ∀ c, (if (cntL f c R : Int) > (mt c (2 * (sb + i) + j) : Int) then (cntL f c R : Int) else (mt c (2 * (sb + i) + j) : Int)) = ((mt c (2 * (sb + i) + j + 1) : Nat) : Int) := fun c => by
        rw [hR4 c]
        split
        ·omega
        ·omega
       exact ⟨j + 1, by rw [hmxx 0, hmxx 1]; rfl, by omega, by omega⟩
     ·have hj2 : j = 2 := by omega
      simp -implicitDefEqProofs (disch := omega) only [↓reduceIte, go_sem, reduceToNat, reduceAdd, reduceLeDiff, reduceEqDiff, reduceSub, reduceMul, reduceCtorEq, hwn]
      exact ⟨i + 1, by rw [hj2, show 2 * (sb + (i + 1)) = 2 * (sb + i) + 2 by omega]; rfl, by omega, by omega⟩
  ·have hie : i = B.code.length := by omega
   subst hie
   have hx := hxg (B.code.length - 1) (by omega)
   have hll : ((B.code.length : Nat) : Int) - 1 = ((B.code.length - 1 : Nat) : Int) := by omega
   generalize insAtF f b (B.code.length - 1) = x at hx hla hl3
   have hlab := hla.2
   have hP := hPr (2 * ((sb + (B.code.length - 1) : Nat) : Int)) (by omega)
   have hpl2 := hple (2 * ((sb + (B.code.length - 1) : Nat) : Int))
   have hLb := at_get (lastL_ok hN).1 hbn
   have hO1 := hOut b (outAt (lastL f) b) (by rw [List.getElem?_map, hLb]; rfl) (by rw [hO.il]; exact hbn) (outAt_len (lastL_ok hN).1 hbn)
   have hlo := (listL_le (u := idsU f) (s := outAt (lastL f) b))
   rw [outAt_len (lastL_ok hN).1 hbn] at hlo
   have hsc := fun s hs v hv => @hsc s hs v hv
   generalize pl (2 * ((sb + (B.code.length - 1) : Nat) : Int)) = PL at hP hpl2 hsc
   generalize listL (idsU f) (outAt (lastL f) b) = LO at hO1 hlo hsc
   have jP := fun v => inZ PL v (by omega)
   have jO := fun v => inZ LO v (by omega)
   simp -implicitDefEqProofs (disch := omega) only [↓reduceIte, go_sem, reduceToNat, reduceAdd, reduceLeDiff, reduceEqDiff, reduceSub, reduceMul, reduceCtorEq, hll, hx, encIn]
   refine loopL (σ := Nat) (fun k => ⟨[(3, .rp [.bool f.machine, .str f.name, .sl (f.regs.map encRg), .sl (f.params.map encO), .sl (f.blocks.map encBk)]), (4, .rp LV), (5, .int .i64 ((sb + B.code.length : Nat) : Int)), (6, .ref 6 0), (7, .int .i64 (b : Int)), (19, .sl (x.labels.map encSt)), (20, .int .i64 (k : Int))], [(6, .pbox [.int .i64 (mt 0 (2 * (sb + B.code.length)) : Int), .int .i64 (mt 1 (2 * (sb + B.code.length)) : Int)])]⟩)
    (fun k => k ≤ x.labels.length) (fun k => x.labels.length - k) 0 (by simp -implicitDefEqProofs (disch := omega) only [↓reduceIte, go_sem, reduceToNat, reduceAdd, reduceLeDiff, reduceEqDiff, reduceSub, reduceMul, reduceCtorEq]; rfl) (Nat.zero_le _) ?_
   intro k hk
   simp -implicitDefEqProofs (disch := omega) only [↓reduceIte, go_sem, reduceToNat, reduceAdd, reduceLeDiff, reduceEqDiff, reduceSub, reduceMul, reduceCtorEq]
   refine ifD (fun c3 => ?_) (fun c3 => ?_)
   ·have hg : x.labels[k]? = some x.labels[k] := List.getElem?_eq_getElem (by omega)
    have ⟨s, hs1, hs2, hs3⟩ := hlab _ (List.mem_of_getElem? hg)
    generalize x.labels[k] = lb at hg hs2
    have hF := hFi lb
    have hfi : findI f.blocks lb = (s : Int) := by rw [findI, hs2]; rfl
    rw [hfi] at hF
    have hLs := at_get (lastL_ok hN).1 hs1
    have hI1 := hIn s (insAt (lastL f) s) (by rw [List.getElem?_map, hLs]; rfl) (insAt_len (lastL_ok hN).1 hs1)
    have hli := (listL_le (u := idsU f) (s := insAt (lastL f) s))
    rw [insAt_len (lastL_ok hN).1 hs1] at hli
    have hsc := fun v hv => hsc s hs3 v hv
    generalize listL (idsU f) (insAt (lastL f) s) = LI at hI1 hli hsc
    simp -implicitDefEqProofs (disch := omega) only [↓reduceIte, go_sem, reduceToNat, reduceAdd, reduceLeDiff, reduceEqDiff, reduceSub, reduceMul, reduceCtorEq, hg, encSt]
    refine callL hF ?_
    simp -implicitDefEqProofs (disch := omega) only [↓reduceIte, go_sem, reduceToNat, reduceAdd, reduceLeDiff, reduceEqDiff, reduceSub, reduceMul, reduceCtorEq]
    refine callL hI1 ?_
    simp -implicitDefEqProofs (disch := omega) only [↓reduceIte, go_sem, reduceToNat, reduceAdd, reduceLeDiff, reduceEqDiff, reduceSub, reduceMul, reduceCtorEq]
    refine accL (by kernel_rfl) ?_
    simp -implicitDefEqProofs (disch := omega) only [↓reduceIte, go_sem, reduceToNat, reduceAdd, reduceLeDiff, reduceEqDiff, reduceSub, reduceMul, reduceCtorEq]
    refine loopL (σ := Nat) (fun j => ⟨[(3, .rp [.bool f.machine, .str f.name, .sl (f.regs.map encRg), .sl (f.params.map encO), .sl (f.blocks.map encBk)]), (4, .rp LV), (5, .int .i64 ((sb + B.code.length : Nat) : Int)), (6, .ref 6 0), (7, .int .i64 (b : Int)), (19, .sl (x.labels.map encSt)), (20, .int .i64 (k : Int)), (21, .sl (LI.map encN)), (22, .int .i64 (j : Int))], [(6, .pbox [.int .i64 (mt 0 (2 * (sb + B.code.length)) : Int), .int .i64 (mt 1 (2 * (sb + B.code.length)) : Int)])]⟩)
     (fun j => j ≤ LI.length) (fun j => LI.length - j) 0 (by simp -implicitDefEqProofs (disch := omega) only [↓reduceIte, go_sem, reduceToNat, reduceAdd, reduceLeDiff, reduceEqDiff, reduceSub, reduceMul, reduceCtorEq]; rfl) (Nat.zero_le _) ?_
    intro j hj
    simp -implicitDefEqProofs (disch := omega) only [↓reduceIte, go_sem, reduceToNat, reduceAdd, reduceLeDiff, reduceEqDiff, reduceSub, reduceMul, reduceCtorEq]
    refine ifD (fun c4 => ?_) (fun c4 => ?_)
    ·have hgv : LI[j]? = some LI[j] := List.getElem?_eq_getElem (by omega)
     have hmv := hsc _ (List.mem_of_getElem? hgv)
     generalize LI[j] = v at hgv hmv
     have jP := jP v
     have jO := jO v
     rw [decide_eq_true hmv.1] at jP
     rw [decide_eq_true hmv.2] at jO
     have hw1 : IntKind.i64.wrap (2 * ((sb + B.code.length : Nat) : Int)) = 2 * ((sb + B.code.length : Nat) : Int) := wrap64 (by omega) (by omega)
     have hw2 : IntKind.i64.wrap (2 * ((sb + B.code.length : Nat) : Int) - 2) = 2 * ((sb + (B.code.length - 1) : Nat) : Int) := by rw [wrap64 (by omega) (by omega)]; omega
     have hw3 : 2 * ((sb + B.code.length : Nat) : Int) - 2 = 2 * ((sb + (B.code.length - 1) : Nat) : Int) := by omega
     simp -implicitDefEqProofs (disch := omega) only [↓reduceIte, go_sem, reduceToNat, reduceAdd, reduceLeDiff, reduceEqDiff, reduceSub, reduceMul, reduceCtorEq, hw1, hw2, hw3]
     refine callL hP ?_
     simp -implicitDefEqProofs (disch := omega) only [↓reduceIte, go_sem, reduceToNat, reduceAdd, reduceLeDiff, reduceEqDiff, reduceSub, reduceMul, reduceCtorEq, hgv, encN]
     refine callL jP ?_
     simp -implicitDefEqProofs (disch := omega) only [↓reduceIte, go_sem, reduceToNat, reduceAdd, reduceLeDiff, reduceEqDiff, reduceSub, reduceMul, reduceCtorEq, hgv, encN]
     refine callL hO1 ?_
     simp -implicitDefEqProofs (disch := omega) only [↓reduceIte, go_sem, reduceToNat, reduceAdd, reduceLeDiff, reduceEqDiff, reduceSub, reduceMul, reduceCtorEq, hgv, encN]
     refine callL jO ?_
     simp -implicitDefEqProofs (disch := omega) only [↓reduceIte, go_sem, reduceToNat, reduceAdd, reduceLeDiff, reduceEqDiff, reduceSub, reduceMul, reduceCtorEq]
     refine accL (by kernel_rfl) ?_
     simp -implicitDefEqProofs (disch := omega) only [↓reduceIte, go_sem, reduceToNat, reduceAdd, reduceLeDiff, reduceEqDiff, reduceSub, reduceMul, reduceCtorEq]
     exact ⟨j + 1, rfl, by omega, by omega⟩
    ·simp -implicitDefEqProofs (disch := omega) only [↓reduceIte, go_sem, reduceToNat, reduceAdd, reduceLeDiff, reduceEqDiff, reduceSub, reduceMul, reduceCtorEq]
     exact ⟨k + 1, rfl, by omega, by omega⟩
   ·simp -implicitDefEqProofs (disch := omega) only [↓reduceIte, go_sem, reduceToNat, reduceAdd, reduceLeDiff, reduceEqDiff, reduceSub, reduceMul, reduceCtorEq]
    exact ⟨b + 1, by rw [hsu]; rfl, by omega, by omega⟩
 ·simp -implicitDefEqProofs (disch := omega) only [↓reduceIte, go_sem, reduceToNat, reduceAdd, reduceLeDiff, reduceEqDiff, reduceSub, reduceMul, reduceCtorEq]
  have hbe : b = f.blocks.length := by omega
  subst hbe
  have hm1 := hMo 0
  have hm2 := hMo 1
  rw [hmo] at hm1 hm2
  refine callL hm1 ?_
  simp -implicitDefEqProofs (disch := omega) only [↓reduceIte, go_sem, reduceToNat, reduceAdd, reduceLeDiff, reduceEqDiff, reduceSub, reduceMul, reduceCtorEq]
  refine callL hm2 ?_
  simp -implicitDefEqProofs (disch := omega) only [↓reduceIte, go_sem, reduceToNat, reduceAdd, reduceLeDiff, reduceEqDiff, reduceSub, reduceMul, reduceCtorEq]
  refine callL C6 ?_
  simp -implicitDefEqProofs (disch := omega) only [↓reduceIte, go_sem, reduceToNat, reduceAdd, reduceLeDiff, reduceEqDiff, reduceSub, reduceMul, reduceCtorEq]
  refine accL (by kernel_rfl) ?_
  simp -implicitDefEqProofs (disch := omega) only [↓reduceIte, go_sem, reduceToNat, reduceAdd, reduceLeDiff, reduceEqDiff, reduceSub, reduceMul, reduceCtorEq]
  exact ⟨rfl, rfl⟩
end Go.Proofs.YtgbmneoeggdaoaaGreatDoor.X
