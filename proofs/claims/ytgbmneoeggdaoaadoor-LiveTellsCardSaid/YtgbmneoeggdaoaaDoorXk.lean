/- The reference of the points, and what an instruction takes from; who is known. -/
import Derived.Test.YtgbmneoeggdaoaaDoorXj
namespace Go.Proofs.YtgbmneoeggdaoaaDoor.X
open Go Go.AM Go.Proofs
attribute [local go_sem ↓] w_skip w_lbl w_ops w_draw w_pre w_post w_alt w_seq w_cond w_block w_join w_loop w_exit w_ret w_scope w_rfunc l_nil l_cons th_n th_e th_r bk_n bk_r bk_e t_nil t_it t_call t_callg i_nil i_one i_grp s_nil s_cons c_call c_callg e_rar e_dynB e_mv e_nil e_dyn e_nilb e_frz o_mov o_bin o_eq o_un o_conv o_len o_slen o_idx o_aix o_fad o_load o_store o_boxp o_boxo o_boxm o_alloc o_allocm o_alloca o_nilarr o_build o_bslp o_bslo o_slc o_sslc o_slc3 o_sidx o_mkfn o_mkmv o_calle o_bslr o_ridx o_rload o_rapp o_vidx o_ext o_pick o_callf o_callb o_appd o_clear o_mxn o_field o_nilc o_make o_makeb o_buildm o_boxg o_mkif o_tass o_eqs o_callo o_callx k_int k_str k_bool k_grb k_grt k_some k_none k_rar k_arr k_lens k_lenf k_lenh k_lenb k_idxb k_idxs k_idxf k_idxh k_ld k_loadp k_loadr k_loade k_storer k_storee k_oin k_ois k_slcs k_slcf k_slch k_slc3s k_slc3f k_slc3h k_app2 k_apps k_appf k_apph k_cals k_cald k_cali k_cnb k_cna k_esn k_esc k_efn k_efc k_esh b_add b_sub b_mul b_quo b_rem b_and b_or b_xor b_andNot b_eql b_neq b_lss b_leq b_gtr b_geq b_shl b_shr b_seq b_sne b_slt b_sad q_bool q_str q_nil q_nilf u_not u_neg u_xor f_ret f_nor v_r v_c v_g v_reg v_ob v_set v_put v_so v_sn v_pn v_pc g_nil d_nil p_nil m_mv m_fr z_nil z_cons z_an z_ac g_cons d_cons p_cons y_mov y_bin y_eq y_un y_conv y_len y_slen y_idx y_aix y_fad y_load y_store y_boxp y_boxo y_boxm y_alloc y_alloca y_allocm y_nilarr y_build y_bslp y_bslo y_slc y_sslc y_slc3 y_sidx y_mkfn y_ext y_pick y_callf y_callb y_appd y_clear y_mxn y_field y_nilc y_make y_makeb y_buildm y_boxg y_mkif y_tass y_eqs y_callo y_mkmv y_callx y_vidx y_bslr y_ridx y_rload y_rapp y_calle nb_if
attribute [local go_sem] nbd VL_mk VL2_mk If_t If_f If_not If_and If_or If_dt If_df If_et If_ef If_ne Ck_t Ck_h Opt_s ld_a ld_c lm_a lm_c renL ren keepR renA idxM invL getObs mapOb renOb allNone putAll fzR fzO fz fzL fzOb fzB frzOk upFrom mapR resOne resA cellsOf oneA oneAL isP isPL okSt kRows kParts fillA setAt bor bor0 bor1 bor2 borC borI key0 key1 key2 keysA fillM cellsM cellM unif ptrA ifOk kPartsM getObsM allNoneM zipU scal0 scalar eqC evNil evNilF memK keyX hideM xbor scal1 scalX scalOb bndA mkMag showM lendV hideV hideR hideOb hideL hideO showL backO noneO mapA List.map_cons List.map_nil List.cons_append List.nil_append List.append_nil List.drop_zero List.drop_succ_cons List.drop_nil List.take_succ_cons List.take_zero List.take_nil List.length_cons List.length_nil List.length_map List.getElem?_map Option.map_some Option.map_none Int.toNat_natCast Int.toNat_zero Int.toNat_one Int.natCast_nonneg List.flatMap_cons List.flatMap_nil List.all_cons List.all_nil List.any_cons List.any_nil Bool.or_false Bool.false_or Bool.or_true Bool.true_or Bool.and_true Bool.true_and Bool.and_false Bool.false_and Bool.not_true Bool.not_false beq_self_eq_true nb_self all_nil List.forall_mem_cons tk_map tk_app bs_self bs_dec bq_t bq_f Bool.not_not decide_true decide_false Bool.not_not and_self and_true true_and eq_self List.reverse_cons List.reverse_nil List.getElem?_cons_zero List.getElem?_cons_succ cond_true cond_false List.set_cons_zero List.set_cons_succ Nat.zero_add Nat.add_zero if_true if_false ite_true ite_false implies_true wrap64 wrap8
open Go.Bits
set_option linter.unusedVariables false
set_option linter.unusedSimpArgs false
set_option maxRecDepth 10000
set_option maxHeartbeats 1000000
theorem C5 (f : Fnc) (hB : f.blocks.length < 1000000000) (hs : sumTo f.blocks f.blocks.length < 4000000000000000000) : Ctr Tryd.prog 5 [.agg (encFn f)] [] (ret [.int .i64 (sumTo f.blocks f.blocks.length : Int)]) := by
 apply ctr_b A5_ok rfl (Nat.le_of_ble_eq_true rfl)
 unfold A5
 simp only [initL, Nat.reduceAdd]
 simp -implicitDefEqProofs (maxSteps := 2000000) (disch := omega) only [↓reduceIte, go_sem, Int.reduceToNat, Nat.reduceAdd, Nat.reduceLeDiff, Nat.reduceEqDiff, Nat.reduceSub, Nat.reduceMul, reduceCtorEq, encFn]
 refine loopL (σ := Nat) (fun b => ⟨[(1, .rp (encFn f)), (3, .int .i64 (sumTo f.blocks b : Int)), (4, .int .i64 (b : Int))], []⟩) (fun b => b ≤ f.blocks.length) (fun b => f.blocks.length - b) 0 (by simp -implicitDefEqProofs (maxSteps := 2000000) (disch := omega) only [↓reduceIte, go_sem, Int.reduceToNat, Nat.reduceAdd, Nat.reduceLeDiff, Nat.reduceEqDiff, Nat.reduceSub, Nat.reduceMul, reduceCtorEq, encFn]; rfl) (Nat.zero_le _) ?_
 intro b hb
 have hmx2 := sumTo_max (bs := f.blocks) (b := b + 1)
 simp -implicitDefEqProofs (maxSteps := 2000000) (disch := omega) only [↓reduceIte, go_sem, Int.reduceToNat, Nat.reduceAdd, Nat.reduceLeDiff, Nat.reduceEqDiff, Nat.reduceSub, Nat.reduceMul, reduceCtorEq, encFn]
 refine ifD (fun c => ?_) (fun c => ?_)
 ·have hx : f.blocks[b]? = some f.blocks[b] := List.getElem?_eq_getElem (by omega)
  have hs1 := sumTo_succ hx
  generalize f.blocks[b] = x at hx hs1
  have hw : IntKind.i64.wrap ((sumTo f.blocks b : Int) + (x.code.length : Int)) = ((sumTo f.blocks b + x.code.length : Nat) : Int) := by rw [wrap64 (by omega) (by omega)]; omega
  simp -implicitDefEqProofs (maxSteps := 2000000) (disch := omega) only [↓reduceIte, go_sem, Int.reduceToNat, Nat.reduceAdd, Nat.reduceLeDiff, Nat.reduceEqDiff, Nat.reduceSub, Nat.reduceMul, reduceCtorEq, encFn, hx, encBk, hw]
  exact ⟨b + 1, by rw [hs1]; rfl, by omega, by omega⟩
 ·simp -implicitDefEqProofs (maxSteps := 2000000) (disch := omega) only [↓reduceIte, go_sem, Int.reduceToNat, Nat.reduceAdd, Nat.reduceLeDiff, Nat.reduceEqDiff, Nat.reduceSub, Nat.reduceMul, reduceCtorEq, encFn]
  rw [show b = f.blocks.length by omega]
  exact ⟨rfl, rfl⟩
/-- The reference's answer of a point. -/
def pntR (bs : List Blk) (p : Int) : Int × Int × Bool × Bool :=
 if p < 0 ∨ 2 * (sumTo bs bs.length : Int) ≤ p then (-1, -1, false, false)
 else if p % 2 = 0 then ((whereP bs (p / 2)).1, (whereP bs (p / 2)).2, false, true)
 else ((whereP bs (p / 2)).1, (whereP bs (p / 2)).2, true, !decide ((whereP bs (p / 2)).2 = (lenP bs (whereP bs (p / 2)).1) - 1))
theorem where_at {bs : List Blk} {b i : Nat} {B : Blk} (hb : bs[b]? = some B) (hi : i < B.code.length) : whereP bs ((sumTo bs b + i : Nat) : Int) = ((b : Int), (i : Int)) ∧ sumTo bs b + i < sumTo bs bs.length := by
 have hlt := (List.getElem?_eq_some_iff.1 hb).1
 have h1 := sumTo_succ hb
 have h2 := sumTo_max (bs := bs) (b := b + 1)
 have hw := whB_of (n := ((sumTo bs b + i : Nat) : Int)) hlt (by omega) (by omega)
 refine ⟨?_, by omega⟩
 unfold whereP
 rw [if_neg (by omega), hw]
 simp only [Prod.mk.injEq, true_and]
 omega
theorem len_at {bs : List Blk} {b : Nat} {B : Blk} (hb : bs[b]? = some B) : lenP bs (b : Int) = (B.code.length : Int) := by
 have hlt := (List.getElem?_eq_some_iff.1 hb).1
 have h1 := sumTo_succ hb
 unfold lenP
 rw [if_pos (by omega), Int.toNat_natCast]
 omega
theorem pnt_even {bs : List Blk} {b i : Nat} {B : Blk} (hb : bs[b]? = some B) (hi : i < B.code.length) : pntR bs (2 * ((sumTo bs b + i : Nat) : Int)) = ((b : Int), (i : Int), false, true) := by
 have ⟨h1, h2⟩ := where_at hb hi
 unfold pntR
 rw [if_neg (by omega), if_pos (by omega), show 2 * ((sumTo bs b + i : Nat) : Int) / 2 = ((sumTo bs b + i : Nat) : Int) by omega, h1]
theorem pnt_odd {bs : List Blk} {b i : Nat} {B : Blk} (hb : bs[b]? = some B) (hi : i < B.code.length) : pntR bs (2 * ((sumTo bs b + i : Nat) : Int) + 1) = ((b : Int), (i : Int), true, !decide ((i : Int) = (B.code.length : Int) - 1)) := by
 have ⟨h1, h2⟩ := where_at hb hi
 unfold pntR
 rw [if_neg (by omega), if_neg (by omega), show (2 * ((sumTo bs b + i : Nat) : Int) + 1) / 2 = ((sumTo bs b + i : Nat) : Int) by omega, h1, len_at hb]
theorem C41 (f : Fnc) (p : Int) (hB : f.blocks.length < 1000000000) (hs : sumTo f.blocks f.blocks.length < 1000000000) : Ctr Tryd.prog 41 [.agg (encFn f), .int .i64 p] [] (ret [.int .i64 (pntR f.blocks p).1, .int .i64 (pntR f.blocks p).2.1, .bool (pntR f.blocks p).2.2.1, .bool (pntR f.blocks p).2.2.2]) := by
 apply ctr_b A41_ok rfl (Nat.le_of_ble_eq_true rfl)
 unfold A41
 simp only [initL, Nat.reduceAdd]
 simp -implicitDefEqProofs (maxSteps := 2000000) (disch := omega) only [↓reduceIte, go_sem, Int.reduceToNat, Nat.reduceAdd, Nat.reduceLeDiff, Nat.reduceEqDiff, Nat.reduceSub, Nat.reduceMul, reduceCtorEq, encFn]
 refine loopL (σ := Nat) (fun b => ⟨[(1, .int .i64 p), (2, .rp (encFn f)), (8, .int .i64 (sumTo f.blocks b : Int)), (9, .int .i64 (b : Int))], []⟩) (fun b => b ≤ f.blocks.length ∧ (0 ≤ p → 2 * (sumTo f.blocks b : Int) ≤ p)) (fun b => f.blocks.length - b) 0 (by simp -implicitDefEqProofs (maxSteps := 2000000) (disch := omega) only [↓reduceIte, go_sem, Int.reduceToNat, Nat.reduceAdd, Nat.reduceLeDiff, Nat.reduceEqDiff, Nat.reduceSub, Nat.reduceMul, reduceCtorEq, encFn]; rfl) ⟨Nat.zero_le _, fun h => by simpa [sumTo] using h⟩ ?_
 rintro b ⟨hb, hp⟩
 have hmx2 := sumTo_max (bs := f.blocks) (b := b + 1)
 have hend : b = f.blocks.length → pntR f.blocks p = (-1, -1, false, false) := fun e => by
  unfold pntR
  rw [if_pos]
  rw [e] at hp
  omega
 simp -implicitDefEqProofs (maxSteps := 2000000) (disch := omega) only [↓reduceIte, go_sem, Int.reduceToNat, Nat.reduceAdd, Nat.reduceLeDiff, Nat.reduceEqDiff, Nat.reduceSub, Nat.reduceMul, reduceCtorEq, encFn]
 refine ifD (fun c => ?_) (fun c => ?_)
 ·have hx : f.blocks[b]? = some f.blocks[b] := List.getElem?_eq_getElem (by omega)
  have hs1 := sumTo_succ hx
  have he := fun i hi => pnt_even (i := i) hx hi
  have ho := fun i hi => pnt_odd (i := i) hx hi
  generalize f.blocks[b] = x at hx hs1 he ho
  generalize hn : sumTo f.blocks b = n at hp hs1 he ho ⊢
  simp -implicitDefEqProofs (maxSteps := 2000000) (disch := omega) only [↓reduceIte, go_sem, Int.reduceToNat, Nat.reduceAdd, Nat.reduceLeDiff, Nat.reduceEqDiff, Nat.reduceSub, Nat.reduceMul, reduceCtorEq, encFn, hx, encBk]
  refine loopL (σ := Nat) (fun i => ⟨[(1, .int .i64 p), (2, .rp (encFn f)), (8, .int .i64 ((n + i : Nat) : Int)), (9, .int .i64 (b : Int)), (10, .int .i64 (i : Int))], []⟩) (fun i => i ≤ x.code.length ∧ (0 ≤ p → 2 * ((n + i : Nat) : Int) ≤ p)) (fun i => x.code.length - i) 0 (by simp -implicitDefEqProofs (maxSteps := 2000000) (disch := omega) only [↓reduceIte, go_sem, Int.reduceToNat, Nat.reduceAdd, Nat.reduceLeDiff, Nat.reduceEqDiff, Nat.reduceSub, Nat.reduceMul, reduceCtorEq, encFn]; rfl) ⟨Nat.zero_le _, hp⟩ ?_
  rintro i ⟨hi, hpi⟩
  simp -implicitDefEqProofs (maxSteps := 2000000) (disch := omega) only [↓reduceIte, go_sem, Int.reduceToNat, Nat.reduceAdd, Nat.reduceLeDiff, Nat.reduceEqDiff, Nat.reduceSub, Nat.reduceMul, reduceCtorEq, encFn, hx, encBk]
  refine ifD (fun c2 => ?_) (fun c2 => ?_)
  ·have hil : i < x.code.length := by omega
   have he := he i hil
   have ho := ho i hil
   have w2 : IntKind.i64.wrap (2 * ((n + i : Nat) : Int)) = 2 * ((n + i : Nat) : Int) := wrap64 (by omega) (by omega)
   have w3 : IntKind.i64.wrap (2 * ((n + i : Nat) : Int) + 1) = 2 * ((n + i : Nat) : Int) + 1 := wrap64 (by omega) (by omega)
   have w4 : IntKind.i64.wrap ((x.code.length : Int) - 1) = (x.code.length : Int) - 1 := wrap64 (by omega) (by omega)
   simp -implicitDefEqProofs (maxSteps := 2000000) (disch := omega) only [↓reduceIte, go_sem, Int.reduceToNat, Nat.reduceAdd, Nat.reduceLeDiff, Nat.reduceEqDiff, Nat.reduceSub, Nat.reduceMul, reduceCtorEq, encFn, w2]
   refine ifE (fun e1 => ?_) (fun e1 => ?_)
   ·simp -implicitDefEqProofs (maxSteps := 2000000) (disch := omega) only [↓reduceIte, go_sem, Int.reduceToNat, Nat.reduceAdd, Nat.reduceLeDiff, Nat.reduceEqDiff, Nat.reduceSub, Nat.reduceMul, reduceCtorEq, encFn, w2]
    rw [e1, he]
    exact ⟨rfl, rfl⟩
   ·simp -implicitDefEqProofs (maxSteps := 2000000) (disch := omega) only [↓reduceIte, go_sem, Int.reduceToNat, Nat.reduceAdd, Nat.reduceLeDiff, Nat.reduceEqDiff, Nat.reduceSub, Nat.reduceMul, reduceCtorEq, encFn, w2, w3]
    refine ifE (fun e2 => ?_) (fun e2 => ?_)
    ·simp -implicitDefEqProofs (maxSteps := 2000000) (disch := omega) only [↓reduceIte, go_sem, Int.reduceToNat, Nat.reduceAdd, Nat.reduceLeDiff, Nat.reduceEqDiff, Nat.reduceSub, Nat.reduceMul, reduceCtorEq, encFn, w2, w3, hx, encBk, w4]
     rw [e2, ho]
     exact ⟨rfl, rfl⟩
    ·simp -implicitDefEqProofs (maxSteps := 2000000) (disch := omega) only [↓reduceIte, go_sem, Int.reduceToNat, Nat.reduceAdd, Nat.reduceLeDiff, Nat.reduceEqDiff, Nat.reduceSub, Nat.reduceMul, reduceCtorEq, encFn, w2, w3]
     exact ⟨i + 1, rfl, ⟨by omega, fun h => by have := hpi h; omega⟩, by omega⟩
  ·simp -implicitDefEqProofs (maxSteps := 2000000) (disch := omega) only [↓reduceIte, go_sem, Int.reduceToNat, Nat.reduceAdd, Nat.reduceLeDiff, Nat.reduceEqDiff, Nat.reduceSub, Nat.reduceMul, reduceCtorEq, encFn]
   exact ⟨b + 1, by rw [show sumTo f.blocks (b + 1) = n + i by omega]; rfl, ⟨by omega, fun h => by have := hpi h; omega⟩, by omega⟩
 ·simp -implicitDefEqProofs (maxSteps := 2000000) (disch := omega) only [↓reduceIte, go_sem, Int.reduceToNat, Nat.reduceAdd, Nat.reduceLeDiff, Nat.reduceEqDiff, Nat.reduceSub, Nat.reduceMul, reduceCtorEq, encFn]
  rw [hend (by omega)]
  exact ⟨rfl, rfl⟩
def takesX (x : Ins) (v : Int) : Bool := x.args.any fun a => decide (a.kind = 1) && decide (a.n = v)
theorem C62 (x : Ins) (v : Int) (hl : x.args.length ≤ 9223372036854775807) : Ctr Tryd.prog 62 [.agg (encIn x), .int .i64 v] [] (ret [.bool (takesX x v)]) := by
 apply ctr_b A62_ok rfl (Nat.le_of_ble_eq_true rfl)
 unfold A62
 simp only [initL, Nat.reduceAdd]
 simp -implicitDefEqProofs (maxSteps := 2000000) (disch := omega) only [↓reduceIte, go_sem, Int.reduceToNat, Nat.reduceAdd, Nat.reduceLeDiff, Nat.reduceEqDiff, Nat.reduceSub, Nat.reduceMul, reduceCtorEq, encIn]
 refine loopL (σ := Nat) (fun k => ⟨[(1, .int .i64 v), (2, .rp (encIn x)), (5, .int .i64 (k : Int))], []⟩) (fun k => k ≤ x.args.length ∧ ((x.args.take k).any fun a => decide (a.kind = 1) && decide (a.n = v)) = false) (fun k => x.args.length - k) 0 (by simp -implicitDefEqProofs (maxSteps := 2000000) (disch := omega) only [↓reduceIte, go_sem, Int.reduceToNat, Nat.reduceAdd, Nat.reduceLeDiff, Nat.reduceEqDiff, Nat.reduceSub, Nat.reduceMul, reduceCtorEq, encIn]; rfl) ⟨Nat.zero_le _, rfl⟩ ?_
 rintro k ⟨hk, hn⟩
 simp -implicitDefEqProofs (maxSteps := 2000000) (disch := omega) only [↓reduceIte, go_sem, Int.reduceToNat, Nat.reduceAdd, Nat.reduceLeDiff, Nat.reduceEqDiff, Nat.reduceSub, Nat.reduceMul, reduceCtorEq, encIn]
 refine ifD (fun c => ?_) (fun c => ?_)
 ·have ha : x.args[k]? = some x.args[k] := List.getElem?_eq_getElem (by omega)
  have hm := List.mem_of_getElem? ha
  have htk := snoc_take ha
  generalize x.args[k] = a at ha hm htk
  have hyes : (decide (a.kind = 1) && decide (a.n = v)) = true → takesX x v = true := fun h => List.any_eq_true.2 ⟨a, hm, h⟩
  have hno : (decide (a.kind = 1) && decide (a.n = v)) = false → ((x.args.take (k + 1)).any fun a => decide (a.kind = 1) && decide (a.n = v)) = false := fun h => by
   rw [htk, List.any_append, hn, List.any_cons, List.any_nil, h]
   rfl
  simp -implicitDefEqProofs (maxSteps := 2000000) (disch := omega) only [↓reduceIte, go_sem, Int.reduceToNat, Nat.reduceAdd, Nat.reduceLeDiff, Nat.reduceEqDiff, Nat.reduceSub, Nat.reduceMul, reduceCtorEq, encIn, ha, encO]
  refine ifE (fun e1 => ?_) (fun e1 => ?_)
  ·simp -implicitDefEqProofs (maxSteps := 2000000) (disch := omega) only [↓reduceIte, go_sem, Int.reduceToNat, Nat.reduceAdd, Nat.reduceLeDiff, Nat.reduceEqDiff, Nat.reduceSub, Nat.reduceMul, reduceCtorEq, encIn, ha, encO]
   refine ifE (fun e2 => ?_) (fun e2 => ?_)
   ·simp -implicitDefEqProofs (maxSteps := 2000000) (disch := omega) only [↓reduceIte, go_sem, Int.reduceToNat, Nat.reduceAdd, Nat.reduceLeDiff, Nat.reduceEqDiff, Nat.reduceSub, Nat.reduceMul, reduceCtorEq]
    rw [hyes (by simp [e1, e2])]
    exact ⟨rfl, rfl⟩
   ·simp -implicitDefEqProofs (maxSteps := 2000000) (disch := omega) only [↓reduceIte, go_sem, Int.reduceToNat, Nat.reduceAdd, Nat.reduceLeDiff, Nat.reduceEqDiff, Nat.reduceSub, Nat.reduceMul, reduceCtorEq]
    exact ⟨k + 1, rfl, ⟨by omega, hno (by simp [e2])⟩, by omega⟩
  ·simp -implicitDefEqProofs (maxSteps := 2000000) (disch := omega) only [↓reduceIte, go_sem, Int.reduceToNat, Nat.reduceAdd, Nat.reduceLeDiff, Nat.reduceEqDiff, Nat.reduceSub, Nat.reduceMul, reduceCtorEq, encIn, ha, encO]
   exact ⟨k + 1, rfl, ⟨by omega, hno (by simp [e1])⟩, by omega⟩
 ·simp -implicitDefEqProofs (maxSteps := 2000000) (disch := omega) only [↓reduceIte, go_sem, Int.reduceToNat, Nat.reduceAdd, Nat.reduceLeDiff, Nat.reduceEqDiff, Nat.reduceSub, Nat.reduceMul, reduceCtorEq]
  rw [List.take_of_length_le (by omega)] at hn
  have : takesX x v = false := hn
  rw [this]
  exact ⟨rfl, rfl⟩
def knownF (f : Fnc) (v : Int) : Bool := f.regs.any fun g => decide (g.id = v)
theorem C35 (f : Fnc) (v : Int) (hl : f.regs.length < 1000000000) : Ctr Tryd.prog 35 [.agg (encFn f), .int .i64 v] [] (ret [.bool (knownF f v)]) := by
 apply ctr_b A35_ok rfl (Nat.le_of_ble_eq_true rfl)
 unfold A35
 simp only [initL, Nat.reduceAdd]
 simp -implicitDefEqProofs (maxSteps := 2000000) (disch := omega) only [↓reduceIte, go_sem, Int.reduceToNat, Nat.reduceAdd, Nat.reduceLeDiff, Nat.reduceEqDiff, Nat.reduceSub, Nat.reduceMul, reduceCtorEq, encFn]
 refine loopL (σ := Nat) (fun k => ⟨[(1, .int .i64 v), (2, .rp (encFn f)), (5, .int .i64 (k : Int))], []⟩) (fun k => k ≤ f.regs.length ∧ ((f.regs.take k).any fun g => decide (g.id = v)) = false) (fun k => f.regs.length - k) 0 (by simp -implicitDefEqProofs (maxSteps := 2000000) (disch := omega) only [↓reduceIte, go_sem, Int.reduceToNat, Nat.reduceAdd, Nat.reduceLeDiff, Nat.reduceEqDiff, Nat.reduceSub, Nat.reduceMul, reduceCtorEq, encFn]; rfl) ⟨Nat.zero_le _, rfl⟩ ?_
 rintro k ⟨hk, hn⟩
 simp -implicitDefEqProofs (maxSteps := 2000000) (disch := omega) only [↓reduceIte, go_sem, Int.reduceToNat, Nat.reduceAdd, Nat.reduceLeDiff, Nat.reduceEqDiff, Nat.reduceSub, Nat.reduceMul, reduceCtorEq, encFn]
 refine ifD (fun c => ?_) (fun c => ?_)
 ·have ha : f.regs[k]? = some f.regs[k] := List.getElem?_eq_getElem (by omega)
  have hm := List.mem_of_getElem? ha
  have htk := snoc_take ha
  generalize f.regs[k] = a at ha hm htk
  simp -implicitDefEqProofs (maxSteps := 2000000) (disch := omega) only [↓reduceIte, go_sem, Int.reduceToNat, Nat.reduceAdd, Nat.reduceLeDiff, Nat.reduceEqDiff, Nat.reduceSub, Nat.reduceMul, reduceCtorEq, encFn, ha, encRg]
  refine ifE (fun e1 => ?_) (fun e1 => ?_)
  ·simp -implicitDefEqProofs (maxSteps := 2000000) (disch := omega) only [↓reduceIte, go_sem, Int.reduceToNat, Nat.reduceAdd, Nat.reduceLeDiff, Nat.reduceEqDiff, Nat.reduceSub, Nat.reduceMul, reduceCtorEq]
   have : knownF f v = true := List.any_eq_true.2 ⟨a, hm, by simp [e1]⟩
   rw [this]
   exact ⟨rfl, rfl⟩
  ·simp -implicitDefEqProofs (maxSteps := 2000000) (disch := omega) only [↓reduceIte, go_sem, Int.reduceToNat, Nat.reduceAdd, Nat.reduceLeDiff, Nat.reduceEqDiff, Nat.reduceSub, Nat.reduceMul, reduceCtorEq]
   refine ⟨k + 1, rfl, ⟨by omega, ?_⟩, by omega⟩
   rw [htk, List.any_append, hn, List.any_cons, List.any_nil, decide_eq_false e1]
   rfl
 ·simp -implicitDefEqProofs (maxSteps := 2000000) (disch := omega) only [↓reduceIte, go_sem, Int.reduceToNat, Nat.reduceAdd, Nat.reduceLeDiff, Nat.reduceEqDiff, Nat.reduceSub, Nat.reduceMul, reduceCtorEq]
  rw [List.take_of_length_le (by omega)] at hn
  have : knownF f v = false := hn
  rw [this]
  exact ⟨rfl, rfl⟩
/- The reference's search, and Wanted. -/
def givesX (x : Ins) (v : Int) : Bool := decide (x.dst.kind = 1) && decide (x.dst.n = v)
def scanL (v : Int) : List Ins → Option Bool
 | [] => none
 | x :: l => if takesX x v = true then some true else if givesX x v = true then some false else scanL v l
def goS (g : Nat → List Bool → Bool × List Bool) : List Nat → List Bool → Bool × List Bool
 | [], seen => (false, seen)
 | s :: l, seen => if seen.getD s false = true then goS g l seen else if (g s (seen.set s true)).1 = true then (true, (g s (seen.set s true)).2) else goS g l (g s (seen.set s true)).2
def srch (f : Fnc) (S : List (List Nat)) (v : Int) : Nat → Nat → Nat → List Bool → Bool × List Bool
 | 0, _, _, seen => (false, seen)
 | k + 1, b, i, seen => match scanL v ((blkAt f b).code.drop i) with
  | some r => (r, seen)
  | none => goS (fun s seen => srch f S v k s 0 seen) (rowAt S b) seen
def encB (b : Bool) : List AV := [.bool b]
theorem goS_spec {g : Nat → List Bool → Bool × List Bool} (hg : ∀ s seen, (g s seen).2.length = seen.length ∧ ∀ j : Nat, seen.getD j false = true → (g s seen).2.getD j false = true) : ∀ {l : List Nat} {seen : List Bool}, (goS g l seen).2.length = seen.length ∧ ∀ j : Nat, seen.getD j false = true → (goS g l seen).2.getD j false = true
 | [], seen => ⟨rfl, fun j h => h⟩
 | s :: l, seen => by
  have hset : ∀ j : Nat, seen.getD j false = true → (seen.set s true).getD j false = true := fun j h => by
   rw [List.getD_eq_getElem?_getD, List.getElem?_set] at *
   split
   ·split
    ·rfl
    ·rename_i e hn
     rw [← e, List.getElem?_eq_none (by omega)] at h
     cases h
   ·exact h
  have h1 := hg s (seen.set s true)
  have h2 := goS_spec hg (l := l) (seen := seen)
  have h3 := goS_spec hg (l := l) (seen := (g s (seen.set s true)).2)
  simp only [goS]
  rw [List.length_set] at h1
  split
  ·exact h2
  ·split
   ·exact ⟨h1.1, fun j h => h1.2 j (hset j h)⟩
   ·exact ⟨h3.1.trans h1.1, fun j h => h3.2 j (h1.2 j (hset j h))⟩
theorem srch_spec {f : Fnc} {S : List (List Nat)} {v : Int} : ∀ {k b i : Nat} {seen : List Bool}, (srch f S v k b i seen).2.length = seen.length ∧ ∀ j : Nat, seen.getD j false = true → (srch f S v k b i seen).2.getD j false = true
 | 0, _, _, _ => ⟨rfl, fun j h => h⟩
 | k + 1, b, i, seen => by
  simp only [srch]
  split
  ·exact ⟨rfl, fun j h => h⟩
  ·exact goS_spec fun s seen => srch_spec (k := k)
theorem set_count {seen : List Bool} {s : Nat} (hs : s < seen.length) (h : seen.getD s false = false) : (seen.set s true).count false + 1 = seen.count false := by
 induction seen generalizing s with
 | nil => simp at hs
 | cons x l ih =>
  cases s with
  | zero =>
   have : x = false := by simpa using h
   subst this
   simp [List.count_cons]
  | succ s =>
   have := ih (s := s) (by simpa using hs) (by simpa using h)
   simp only [List.set_cons_succ, List.count_cons]
   omega
theorem setB_map {seen : List Bool} {s : Nat} : (seen.map encB).set s [.bool true] = (seen.set s true).map encB := by rw [List.map_set]; rfl
theorem C36 (f : Fnc) (S : List (List Nat)) (hI : LvIn f S) (v : Int) : ∀ (k b i : Nat) (seen : List Bool), b < f.blocks.length → i < 1000000 → seen.length = f.blocks.length → seen.count false < k →
  Ctr Tryd.prog 36 [.agg (encFn f), .sl (encRows S), .int .i64 (b : Int), .int .i64 (i : Int), .int .i64 v, .hs 0 0 0 f.blocks.length] [.arr 0 1 (seen.map encB)] (retO [.bool (srch f S v k b i seen).1] [.arr 0 1 ((srch f S v k b i seen).2.map encB)])
 | 0, b, i, seen, _, _, _, hc => absurd hc (Nat.not_lt_zero _)
 | k + 1, b, i, seen, hb, hi, hl, hc => by
  have ih := C36 f S hI v k
  have hBk : f.blocks[b]? = some (blkAt f b) := by rw [blkAt, List.getD_eq_getElem?_getD, List.getElem?_eq_getElem hb]; rfl
  have hcode := hI.code _ (List.mem_of_getElem? hBk)
  have hbS : b < S.length := by rw [hI.len]; exact hb
  have hrow : S[b]? = some (rowAt S b) := by rw [rowAt, List.getD_eq_getElem?_getD, List.getElem?_eq_getElem hbS]; rfl
  have hr := hI.row _ (List.mem_of_getElem? hrow)
  have hrow2 : (encRows S)[b]? = some (encRow (rowAt S b)) := by rw [encRows, List.getElem?_map, hrow]; rfl
  have hnb := hI.nb
  have hsr : srch f S v (k + 1) b i seen = match scanL v ((blkAt f b).code.drop i) with
   | some r => (r, seen)
   | none => goS (fun s seen => srch f S v k s 0 seen) (rowAt S b) seen := rfl
  rw [hsr]
  clear hsr
  generalize blkAt f b = B at hBk hcode ⊢
  generalize rowAt S b = r at hrow hr hrow2 ⊢
  apply ctr_b A36_ok rfl (Nat.le_of_ble_eq_true rfl)
  unfold A36
  simp only [initL, Nat.reduceAdd]
  simp -implicitDefEqProofs (maxSteps := 2000000) (disch := omega) only [↓reduceIte, go_sem, Int.reduceToNat, Nat.reduceAdd, Nat.reduceLeDiff, Nat.reduceEqDiff, Nat.reduceSub, Nat.reduceMul, reduceCtorEq, encFn]
  refine loopL (σ := Nat) (fun q => ⟨[(1, .sl (encRows S)), (2, .int .i64 (b : Int)), (4, .int .i64 v), (5, .hs 0 0 0 f.blocks.length), (6, .rp (encFn f)), (13, .int .i64 (q : Int))], [(0, .arr 0 1 (seen.map encB))]⟩)
   (fun q => q < 2000000 ∧ scanL v (B.code.drop q) = scanL v (B.code.drop i)) (fun q => B.code.length - q) i (by simp -implicitDefEqProofs (maxSteps := 2000000) (disch := omega) only [↓reduceIte, go_sem, Int.reduceToNat, Nat.reduceAdd, Nat.reduceLeDiff, Nat.reduceEqDiff, Nat.reduceSub, Nat.reduceMul, reduceCtorEq, encFn]) ⟨by omega, rfl⟩ ?_
  rintro q ⟨hq, hsc⟩
  simp -implicitDefEqProofs (maxSteps := 2000000) (disch := omega) only [↓reduceIte, go_sem, Int.reduceToNat, Nat.reduceAdd, Nat.reduceLeDiff, Nat.reduceEqDiff, Nat.reduceSub, Nat.reduceMul, reduceCtorEq, encFn, hBk, encBk]
  refine ifD (fun c => ?_) (fun c => ?_)
  ·have hx : B.code[q]? = some B.code[q] := List.getElem?_eq_getElem (by omega)
   have hdr := List.drop_eq_getElem_cons (l := B.code) (i := q) (by omega)
   generalize B.code[q] = x at hx hdr
   have htk := C62 x v (by have := hcode.2 x (List.mem_of_getElem? hx); omega)
   rw [hdr, scanL] at hsc
   unfold encIn at htk
   simp -implicitDefEqProofs (maxSteps := 2000000) (disch := omega) only [↓reduceIte, go_sem, Int.reduceToNat, Nat.reduceAdd, Nat.reduceLeDiff, Nat.reduceEqDiff, Nat.reduceSub, Nat.reduceMul, reduceCtorEq, encFn, hBk, encBk, hx, encIn]
   refine callL htk ?_
   simp -implicitDefEqProofs (maxSteps := 2000000) (disch := omega) only [↓reduceIte, go_sem, Int.reduceToNat, Nat.reduceAdd, Nat.reduceLeDiff, Nat.reduceEqDiff, Nat.reduceSub, Nat.reduceMul, reduceCtorEq]
   refine ifB (fun e => ?_) (fun e => ?_)
   ·simp -implicitDefEqProofs (maxSteps := 2000000) (disch := omega) only [↓reduceIte, go_sem, Int.reduceToNat, Nat.reduceAdd, Nat.reduceLeDiff, Nat.reduceEqDiff, Nat.reduceSub, Nat.reduceMul, reduceCtorEq]
    rw [if_pos e] at hsc
    rw [← hsc]
    exact ⟨rfl, rfl⟩
   ·rw [if_neg (by rw [e]; decide)] at hsc
    simp -implicitDefEqProofs (maxSteps := 2000000) (disch := omega) only [↓reduceIte, go_sem, Int.reduceToNat, Nat.reduceAdd, Nat.reduceLeDiff, Nat.reduceEqDiff, Nat.reduceSub, Nat.reduceMul, reduceCtorEq, encIn]
    refine ifE (fun e1 => ?_) (fun e1 => ?_)
    ·simp -implicitDefEqProofs (maxSteps := 2000000) (disch := omega) only [↓reduceIte, go_sem, Int.reduceToNat, Nat.reduceAdd, Nat.reduceLeDiff, Nat.reduceEqDiff, Nat.reduceSub, Nat.reduceMul, reduceCtorEq, encIn]
     refine ifE (fun e2 => ?_) (fun e2 => ?_)
     ·simp -implicitDefEqProofs (maxSteps := 2000000) (disch := omega) only [↓reduceIte, go_sem, Int.reduceToNat, Nat.reduceAdd, Nat.reduceLeDiff, Nat.reduceEqDiff, Nat.reduceSub, Nat.reduceMul, reduceCtorEq]
      rw [if_pos (by simp [givesX, e1, e2])] at hsc
      rw [← hsc]
      exact ⟨rfl, rfl⟩
     ·simp -implicitDefEqProofs (maxSteps := 2000000) (disch := omega) only [↓reduceIte, go_sem, Int.reduceToNat, Nat.reduceAdd, Nat.reduceLeDiff, Nat.reduceEqDiff, Nat.reduceSub, Nat.reduceMul, reduceCtorEq]
      rw [if_neg (by simp [givesX, e2])] at hsc
      exact ⟨q + 1, rfl, ⟨by omega, hsc⟩, by omega⟩
    ·simp -implicitDefEqProofs (maxSteps := 2000000) (disch := omega) only [↓reduceIte, go_sem, Int.reduceToNat, Nat.reduceAdd, Nat.reduceLeDiff, Nat.reduceEqDiff, Nat.reduceSub, Nat.reduceMul, reduceCtorEq]
     rw [if_neg (by simp [givesX, e1])] at hsc
     exact ⟨q + 1, rfl, ⟨by omega, hsc⟩, by omega⟩
  ·have hdn : scanL v (B.code.drop i) = none := by rw [← hsc, List.drop_eq_nil_of_le (by omega)]; rfl
   rw [hdn]
   have hgs := fun s sn => srch_spec (f := f) (S := S) (v := v) (k := k) (b := s) (i := 0) (seen := sn)
   simp -implicitDefEqProofs (maxSteps := 2000000) (disch := omega) only [↓reduceIte, go_sem, Int.reduceToNat, Nat.reduceAdd, Nat.reduceLeDiff, Nat.reduceEqDiff, Nat.reduceSub, Nat.reduceMul, reduceCtorEq]
   generalize hg : (fun s seen => srch f S v k s 0 seen) = g
   have hge : ∀ s sn, srch f S v k s 0 sn = g s sn := fun s sn => by rw [← hg]
   refine loopL (σ := Nat × List Bool) (fun x => ⟨[(1, .sl (encRows S)), (2, .int .i64 (b : Int)), (4, .int .i64 v), (5, .hs 0 0 0 f.blocks.length), (6, .rp (encFn f)), (15, .int .i64 (x.1 : Int))], [(0, .arr 0 1 (x.2.map encB))]⟩)
    (fun x => x.1 ≤ r.length ∧ goS g (r.drop x.1) x.2 = goS g r seen ∧ x.2.length = f.blocks.length ∧ x.2.count false ≤ seen.count false) (fun x => r.length - x.1) (0, seen) (by simp -implicitDefEqProofs (maxSteps := 2000000) (disch := omega) only [↓reduceIte, go_sem, Int.reduceToNat, Nat.reduceAdd, Nat.reduceLeDiff, Nat.reduceEqDiff, Nat.reduceSub, Nat.reduceMul, reduceCtorEq, encFn]; rfl) ⟨Nat.zero_le _, rfl, hl, Nat.le_refl _⟩ ?_
   rintro ⟨j, sn⟩ ⟨hj, hgo, hsl, hsc2⟩
   have hj : j ≤ r.length := hj
   have hgo : goS g (r.drop j) sn = goS g r seen := hgo
   have hsl : sn.length = f.blocks.length := hsl
   have hsc2 : sn.count false ≤ seen.count false := hsc2
   simp -implicitDefEqProofs (maxSteps := 2000000) (disch := omega) only [↓reduceIte, go_sem, Int.reduceToNat, Nat.reduceAdd, Nat.reduceLeDiff, Nat.reduceEqDiff, Nat.reduceSub, Nat.reduceMul, reduceCtorEq, hrow2, encRow]
   refine ifD (fun c3 => ?_) (fun c3 => ?_)
   ·have hs : r[j]? = some r[j] := List.getElem?_eq_getElem (by omega)
    have hdr := List.drop_eq_getElem_cons (l := r) (i := j) (by omega)
    have hsn := hr.2 _ (List.mem_of_getElem? hs)
    generalize r[j] = s at hs hdr hsn
    have hsg : sn[s]? = some (sn.getD s false) := by rw [List.getD_eq_getElem?_getD, List.getElem?_eq_getElem (by omega)]; rfl
    rw [hdr, goS] at hgo
    simp -implicitDefEqProofs (maxSteps := 2000000) (disch := omega) only [↓reduceIte, go_sem, Int.reduceToNat, Nat.reduceAdd, Nat.reduceLeDiff, Nat.reduceEqDiff, Nat.reduceSub, Nat.reduceMul, reduceCtorEq, hrow2, encRow, hs, encK, hsg, encB]
    refine ifB (fun e => ?_) (fun e => ?_)
    ·have e' : sn.getD s false = true := by simpa using e
     rw [if_pos e'] at hgo
     simp -implicitDefEqProofs (maxSteps := 2000000) (disch := omega) only [↓reduceIte, go_sem, Int.reduceToNat, Nat.reduceAdd, Nat.reduceLeDiff, Nat.reduceEqDiff, Nat.reduceSub, Nat.reduceMul, reduceCtorEq]
     exact ⟨(j + 1, sn), rfl, ⟨by show j + 1 ≤ r.length; omega, hgo, hsl, hsc2⟩, by show r.length - (j + 1) < r.length - j; omega⟩
    ·have e' : sn.getD s false = false := by simpa using e
     rw [if_neg (by rw [e']; decide)] at hgo
     have hct := set_count (s := s) (by omega) e'
     have hc0 := ih s 0 (sn.set s true) (by omega) (by omega) (by rw [List.length_set]; exact hsl) (by omega)
     rw [hge, show ((0 : Nat) : Int) = 0 from rfl] at hc0
     have hg1 := hgs s (sn.set s true)
     rw [hge] at hg1
     rw [List.length_set] at hg1
     generalize hy : g s (sn.set s true) = y at hc0 hgo hg1
     have hset : (sn.map encB).set s [.bool true] = (sn.set s true).map encB := setB_map
     unfold encFn at hc0
     simp -implicitDefEqProofs (maxSteps := 2000000) (disch := omega) only [↓reduceIte, go_sem, Int.reduceToNat, Nat.reduceAdd, Nat.reduceLeDiff, Nat.reduceEqDiff, Nat.reduceSub, Nat.reduceMul, reduceCtorEq, hrow2, encRow, hs, encK, hsg, encB, hset, encFn]
     refine callD hc0 ?_
     simp -implicitDefEqProofs (maxSteps := 2000000) (disch := omega) only [↓reduceIte, go_sem, Int.reduceToNat, Nat.reduceAdd, Nat.reduceLeDiff, Nat.reduceEqDiff, Nat.reduceSub, Nat.reduceMul, reduceCtorEq]
     refine ifB (fun e3 => ?_) (fun e3 => ?_)
     ·simp -implicitDefEqProofs (maxSteps := 2000000) (disch := omega) only [↓reduceIte, go_sem, Int.reduceToNat, Nat.reduceAdd, Nat.reduceLeDiff, Nat.reduceEqDiff, Nat.reduceSub, Nat.reduceMul, reduceCtorEq]
      rw [if_pos e3] at hgo
      rw [← hgo]
      exact ⟨rfl, rfl⟩
     ·simp -implicitDefEqProofs (maxSteps := 2000000) (disch := omega) only [↓reduceIte, go_sem, Int.reduceToNat, Nat.reduceAdd, Nat.reduceLeDiff, Nat.reduceEqDiff, Nat.reduceSub, Nat.reduceMul, reduceCtorEq]
      rw [if_neg (by rw [e3]; decide)] at hgo
      refine ⟨(j + 1, y.2), rfl, ⟨by show j + 1 ≤ r.length; omega, hgo, hg1.1.trans hsl, ?_⟩, by show r.length - (j + 1) < r.length - j; omega⟩
      have hz := (zer_le (a := sn.set s true) (b := y.2) (by rw [List.length_set]; exact hg1.1.symm) hg1.2).1
      show y.2.count false ≤ seen.count false
      omega
   ·simp -implicitDefEqProofs (maxSteps := 2000000) (disch := omega) only [↓reduceIte, go_sem, Int.reduceToNat, Nat.reduceAdd, Nat.reduceLeDiff, Nat.reduceEqDiff, Nat.reduceSub, Nat.reduceMul, reduceCtorEq]
    rw [List.drop_eq_nil_of_le (by omega)] at hgo
    rw [← hgo]
    exact ⟨rfl, rfl⟩
def wantB (f : Fnc) (S : List (List Nat)) (b i : Nat) (v : Int) : Bool := knownF f v && (srch f S v (f.blocks.length + 1) b i (List.replicate f.blocks.length false)).1
theorem C12 (f : Fnc) (h : NewOk f) (b i : Nat) (v : Int) (hb : b < f.blocks.length) (hi : i < 1000000) : Ctr Tryd.prog 12 [.agg (encFn f), .int .i64 (b : Int), .int .i64 (i : Int), .int .i64 v] [] (ret [.bool (wantB f (succF f.blocks) b i v)]) := by
 have hkn := C35 f v (by have := h.rl; omega)
 have hsu := C37 f (by have := h.pt.len; omega) h.lab
 have hse := C36 f (succF f.blocks) h.inn v (f.blocks.length + 1) b i (List.replicate f.blocks.length false) hb hi (by simp) (by simp)
 have hrep : (List.replicate f.blocks.length false).map encB = List.replicate f.blocks.length [.bool false] := by rw [List.map_replicate]; rfl
 rw [hrep] at hse
 unfold wantB
 generalize srch f (succF f.blocks) v (f.blocks.length + 1) b i (List.replicate f.blocks.length false) = y at hse ⊢
 generalize succF f.blocks = S at hsu hse
 have hbn := h.inn.nb
 apply ctr_b A12_ok rfl (Nat.le_of_ble_eq_true rfl)
 unfold A12
 simp only [initL, Nat.reduceAdd]
 unfold encFn at hkn hsu hse ⊢
 simp -implicitDefEqProofs (maxSteps := 2000000) (disch := omega) only [↓reduceIte, go_sem, Int.reduceToNat, Nat.reduceAdd, Nat.reduceLeDiff, Nat.reduceEqDiff, Nat.reduceSub, Nat.reduceMul, reduceCtorEq]
 refine callL hkn ?_
 simp -implicitDefEqProofs (maxSteps := 2000000) (disch := omega) only [↓reduceIte, go_sem, Int.reduceToNat, Nat.reduceAdd, Nat.reduceLeDiff, Nat.reduceEqDiff, Nat.reduceSub, Nat.reduceMul, reduceCtorEq]
 cases hk : knownF f v with
 | false =>
  simp -implicitDefEqProofs (maxSteps := 2000000) (disch := omega) only [↓reduceIte, go_sem, Int.reduceToNat, Nat.reduceAdd, Nat.reduceLeDiff, Nat.reduceEqDiff, Nat.reduceSub, Nat.reduceMul, reduceCtorEq]
  refine accL (by kernel_rfl) ?_
  simp -implicitDefEqProofs (maxSteps := 2000000) (disch := omega) only [↓reduceIte, go_sem, Int.reduceToNat, Nat.reduceAdd, Nat.reduceLeDiff, Nat.reduceEqDiff, Nat.reduceSub, Nat.reduceMul, reduceCtorEq]
  exact ⟨rfl, rfl⟩
 | true =>
  simp -implicitDefEqProofs (maxSteps := 2000000) (disch := omega) only [↓reduceIte, go_sem, Int.reduceToNat, Nat.reduceAdd, Nat.reduceLeDiff, Nat.reduceEqDiff, Nat.reduceSub, Nat.reduceMul, reduceCtorEq]
  refine callL hsu ?_
  simp -implicitDefEqProofs (maxSteps := 2000000) (disch := omega) only [↓reduceIte, go_sem, Int.reduceToNat, Nat.reduceAdd, Nat.reduceLeDiff, Nat.reduceEqDiff, Nat.reduceSub, Nat.reduceMul, reduceCtorEq]
  refine callD hse ?_
  simp -implicitDefEqProofs (maxSteps := 2000000) (disch := omega) only [↓reduceIte, go_sem, Int.reduceToNat, Nat.reduceAdd, Nat.reduceLeDiff, Nat.reduceEqDiff, Nat.reduceSub, Nat.reduceMul, reduceCtorEq]
  refine accL (by kernel_rfl) ?_
  simp -implicitDefEqProofs (maxSteps := 2000000) (disch := omega) only [↓reduceIte, go_sem, Int.reduceToNat, Nat.reduceAdd, Nat.reduceLeDiff, Nat.reduceEqDiff, Nat.reduceSub, Nat.reduceMul, reduceCtorEq]
  exact ⟨rfl, rfl⟩
/- The reference's Present, All and Spans. -/
/-- A point: its block, its instruction, whether it is behind that. -/
def PtAt (bs : List Blk) (p : Int) (b i : Nat) (o : Bool) : Prop := ∃ B, bs[b]? = some B ∧ i < B.code.length ∧ p = 2 * ((sumTo bs b + i : Nat) : Int) + (if o = true then 1 else 0) ∧ (o = true → i + 1 < B.code.length)
theorem PtAt.pnt {bs : List Blk} {p : Int} {b i : Nat} {o : Bool} (h : PtAt bs p b i o) : pntR bs p = ((b : Int), (i : Int), o, true) := by
 have ⟨B, hB, hi, hp, ho⟩ := h
 cases o with
 | false =>
  rw [if_neg (by decide), Int.add_zero] at hp
  rw [hp, pnt_even hB hi]
 | true =>
  rw [if_pos rfl] at hp
  have := ho rfl
  rw [hp, pnt_odd hB hi, decide_eq_false (by omega)]
  rfl
theorem PtAt.blk {bs : List Blk} {p : Int} {b i : Nat} {o : Bool} (h : PtAt bs p b i o) : blockP bs p = (b : Int) ∧ whereP bs (p / 2) = ((b : Int), (i : Int)) ∧ (p % 2 == 1) = o := by
 have ⟨B, hB, hi, hp, ho⟩ := h
 have ⟨h1, h2⟩ := where_at hB hi
 have hq : p / 2 = ((sumTo bs b + i : Nat) : Int) := by
  cases o with
  | false => rw [if_neg (by decide)] at hp; omega
  | true => rw [if_pos rfl] at hp; omega
 have hm : (p % 2 == 1) = o := by
  cases o with
  | false => rw [if_neg (by decide)] at hp; simp; omega
  | true => rw [if_pos rfl] at hp; simp; omega
 refine ⟨?_, by rw [hq]; exact h1, hm⟩
 unfold blockP
 rw [hq, h1]
 have h0 : ¬ p < 0 := by
  cases o with
  | false => rw [if_neg (by decide)] at hp; omega
  | true => rw [if_pos rfl] at hp; omega
 rw [if_neg h0, if_neg]
 rintro ⟨_, c1, c2⟩
 have ho' : o = true := by
  rw [← hm]
  simp [c1]
 have := ho ho'
 unfold behindP ofP at c2
 rw [len_at hB, Int.toNat_natCast, if_neg (by simp only; omega), if_neg (by simp only; omega), if_neg (by simp only; omega)] at c2
 simp only at c2
 omega
theorem pt_none {bs : List Blk} {p : Int} (h : ∀ b i o, ¬ PtAt bs p b i o) : blockP bs p < 0 ∧ (pntR bs p).2.2.2 = false := by
 by_cases c : p < 0 ∨ 2 * (sumTo bs bs.length : Int) ≤ p
 ·refine ⟨?_, by unfold pntR; rw [if_pos c]⟩
  unfold blockP
  by_cases c1 : p < 0
  ·rw [if_pos c1]; omega
  ·rw [if_neg c1]
   split
   ·omega
   ·unfold whereP
    rw [if_pos (by omega)]
    omega
 ·have ⟨_, w1, w2, w3⟩ := whB_spec (bs := bs) (n := p / 2) (by omega) (by omega)
  have hB := List.getElem?_eq_getElem w1
  have hsu := sumTo_succ hB
  generalize bs[whB bs (p / 2)] = B at hB hsu
  generalize whB bs (p / 2) = b at hB hsu w1 w2 w3
  have hi : (p / 2 - (sumTo bs b : Int)).toNat < B.code.length := by omega
  have hiz : ((p / 2 - (sumTo bs b : Int)).toNat : Int) = p / 2 - (sumTo bs b : Int) := by omega
  generalize (p / 2 - (sumTo bs b : Int)).toNat = i at hi hiz
  by_cases hm : p % 2 = 0
  ·exact absurd ⟨B, hB, hi, by rw [if_neg (by decide)]; omega, fun e => by cases e⟩ (h b i false)
  ·have hp : p = 2 * ((sumTo bs b + i : Nat) : Int) + 1 := by omega
   have hl : ¬ i + 1 < B.code.length := fun c2 => h b i true ⟨B, hB, hi, by rw [if_pos rfl]; exact hp, fun _ => c2⟩
   have ⟨h1, h2⟩ := where_at hB hi
   refine ⟨?_, by rw [hp, pnt_odd hB hi, decide_eq_true (by omega)]; rfl⟩
   unfold blockP
   rw [show p / 2 = ((sumTo bs b + i : Nat) : Int) by omega, h1, if_neg (by omega), if_pos]
   ·omega
   ·refine ⟨by simp only; omega, by omega, ?_⟩
    unfold behindP
    rw [len_at hB, if_pos (by simp only; omega)]
    omega
def insAtF (f : Fnc) (b i : Nat) : Ins := (blkAt f b).code.getD i ins0
def presB (f : Fnc) (S : List (List Nat)) (p v : Int) : Bool :=
 if (pntR f.blocks p).2.2.2 = true then
  if (pntR f.blocks p).2.2.1 = true then (knownF f v && givesX (insAtF f (pntR f.blocks p).1.toNat (pntR f.blocks p).2.1.toNat) v) || wantB f S (pntR f.blocks p).1.toNat ((pntR f.blocks p).2.1.toNat + 1) v
  else wantB f S (pntR f.blocks p).1.toNat (pntR f.blocks p).2.1.toNat v
 else false
theorem presB_none {f : Fnc} {S : List (List Nat)} {p v : Int} (h : ∀ b i o, ¬ PtAt f.blocks p b i o) : presB f S p v = false := by
 unfold presB
 rw [(pt_none h).2]
 rfl
theorem presB_at {f : Fnc} {S : List (List Nat)} {p v : Int} {b i : Nat} {o : Bool} (h : PtAt f.blocks p b i o) : presB f S p v = if o = true then (knownF f v && givesX (insAtF f b i) v) || wantB f S b (i + 1) v else wantB f S b i v := by
 unfold presB
 rw [h.pnt]
 simp only [if_true, Int.toNat_natCast]
theorem blkAt_get {f : Fnc} {b : Nat} {B : Blk} (h : f.blocks[b]? = some B) : blkAt f b = B := by rw [blkAt, List.getD_eq_getElem?_getD, h]; rfl
theorem C30 (f : Fnc) (h : NewOk f) (p v : Int) : Ctr Tryd.prog 30 [.agg (encFn f), .int .i64 p, .int .i64 v] [] (ret [.bool (presB f (succF f.blocks) p v)]) := by
 have hB9 : f.blocks.length < 1000000000 := by have := h.pt.len; omega
 have hpt := C41 f p hB9 h.pt.sum
 by_cases hex : ∃ b i o, PtAt f.blocks p b i o
 ·have ⟨b, i, o, hat⟩ := hex
  rw [hat.pnt] at hpt
  rw [presB_at hat]
  have ⟨B, hB, hi, hp, ho⟩ := hat
  have hlt := (List.getElem?_eq_some_iff.1 hB).1
  have hcl := (h.inn.code B (List.mem_of_getElem? hB)).1
  have hw0 := C12 f h b i v hlt (by omega)
  have hw1 := C12 f h b (i + 1) v hlt (by omega)
  have hkn := C35 f v (by have := h.rl; omega)
  have hx : B.code[i]? = some (insAtF f b i) := by rw [insAtF, blkAt_get hB, List.getD_eq_getElem?_getD, List.getElem?_eq_getElem hi]; rfl
  rw [show ((i + 1 : Nat) : Int) = (i : Int) + 1 from rfl] at hw1
  generalize insAtF f b i = x at hx ⊢
  generalize wantB f (succF f.blocks) b i v = W0 at hw0 ⊢
  generalize wantB f (succF f.blocks) b (i + 1) v = W1 at hw1 ⊢
  apply ctr_b A30_ok rfl (Nat.le_of_ble_eq_true rfl)
  unfold A30
  simp only [initL, Nat.reduceAdd]
  unfold encFn at hpt hw0 hw1 hkn ⊢
  simp only at hpt
  have hwr : IntKind.i64.wrap ((i : Int) + 1) = (i : Int) + 1 := wrap64 (by omega) (by omega)
  simp -implicitDefEqProofs (maxSteps := 2000000) (disch := omega) only [↓reduceIte, go_sem, Int.reduceToNat, Nat.reduceAdd, Nat.reduceLeDiff, Nat.reduceEqDiff, Nat.reduceSub, Nat.reduceMul, reduceCtorEq]
  refine callL hpt ?_
  simp -implicitDefEqProofs (maxSteps := 2000000) (disch := omega) only [↓reduceIte, go_sem, Int.reduceToNat, Nat.reduceAdd, Nat.reduceLeDiff, Nat.reduceEqDiff, Nat.reduceSub, Nat.reduceMul, reduceCtorEq]
  cases o with
  | false =>
   simp -implicitDefEqProofs (maxSteps := 2000000) (disch := omega) only [↓reduceIte, go_sem, Int.reduceToNat, Nat.reduceAdd, Nat.reduceLeDiff, Nat.reduceEqDiff, Nat.reduceSub, Nat.reduceMul, reduceCtorEq]
   refine callL hw0 ?_
   simp -implicitDefEqProofs (maxSteps := 2000000) (disch := omega) only [↓reduceIte, go_sem, Int.reduceToNat, Nat.reduceAdd, Nat.reduceLeDiff, Nat.reduceEqDiff, Nat.reduceSub, Nat.reduceMul, reduceCtorEq]
   exact ⟨by simp, rfl⟩
  | true =>
   simp -implicitDefEqProofs (maxSteps := 2000000) (disch := omega) only [↓reduceIte, go_sem, Int.reduceToNat, Nat.reduceAdd, Nat.reduceLeDiff, Nat.reduceEqDiff, Nat.reduceSub, Nat.reduceMul, reduceCtorEq, hB, encBk, hx, encIn]
   refine callL hkn ?_
   simp -implicitDefEqProofs (maxSteps := 2000000) (disch := omega) only [↓reduceIte, go_sem, Int.reduceToNat, Nat.reduceAdd, Nat.reduceLeDiff, Nat.reduceEqDiff, Nat.reduceSub, Nat.reduceMul, reduceCtorEq]
   unfold givesX
   cases hk : knownF f v with
   | false =>
    simp -implicitDefEqProofs (maxSteps := 2000000) (disch := omega) only [↓reduceIte, go_sem, Int.reduceToNat, Nat.reduceAdd, Nat.reduceLeDiff, Nat.reduceEqDiff, Nat.reduceSub, Nat.reduceMul, reduceCtorEq, hwr]
    refine callL hw1 ?_
    simp -implicitDefEqProofs (maxSteps := 2000000) (disch := omega) only [↓reduceIte, go_sem, Int.reduceToNat, Nat.reduceAdd, Nat.reduceLeDiff, Nat.reduceEqDiff, Nat.reduceSub, Nat.reduceMul, reduceCtorEq]
    exact ⟨by simp, rfl⟩
   | true =>
    simp -implicitDefEqProofs (maxSteps := 2000000) (disch := omega) only [↓reduceIte, go_sem, Int.reduceToNat, Nat.reduceAdd, Nat.reduceLeDiff, Nat.reduceEqDiff, Nat.reduceSub, Nat.reduceMul, reduceCtorEq]
    by_cases e1 : x.dst.kind = 1
    ·by_cases e2 : x.dst.n = v
     ·simp -implicitDefEqProofs (maxSteps := 2000000) (disch := omega) only [↓reduceIte, go_sem, Int.reduceToNat, Nat.reduceAdd, Nat.reduceLeDiff, Nat.reduceEqDiff, Nat.reduceSub, Nat.reduceMul, reduceCtorEq, e1, e2]
      exact ⟨by simp [e1, e2], rfl⟩
     ·simp -implicitDefEqProofs (maxSteps := 2000000) (disch := omega) only [↓reduceIte, go_sem, Int.reduceToNat, Nat.reduceAdd, Nat.reduceLeDiff, Nat.reduceEqDiff, Nat.reduceSub, Nat.reduceMul, reduceCtorEq, e1, e2, hwr]
      refine callL hw1 ?_
      simp -implicitDefEqProofs (maxSteps := 2000000) (disch := omega) only [↓reduceIte, go_sem, Int.reduceToNat, Nat.reduceAdd, Nat.reduceLeDiff, Nat.reduceEqDiff, Nat.reduceSub, Nat.reduceMul, reduceCtorEq]
      exact ⟨by simp [e2], rfl⟩
    ·simp -implicitDefEqProofs (maxSteps := 2000000) (disch := omega) only [↓reduceIte, go_sem, Int.reduceToNat, Nat.reduceAdd, Nat.reduceLeDiff, Nat.reduceEqDiff, Nat.reduceSub, Nat.reduceMul, reduceCtorEq, e1, hwr]
     refine callL hw1 ?_
     simp -implicitDefEqProofs (maxSteps := 2000000) (disch := omega) only [↓reduceIte, go_sem, Int.reduceToNat, Nat.reduceAdd, Nat.reduceLeDiff, Nat.reduceEqDiff, Nat.reduceSub, Nat.reduceMul, reduceCtorEq]
     exact ⟨by simp [e1], rfl⟩
 ·have hno : ∀ b i o, ¬ PtAt f.blocks p b i o := fun b i o h => hex ⟨b, i, o, h⟩
  rw [presB_none hno]
  have hok := (pt_none hno).2
  rw [hok] at hpt
  apply ctr_b A30_ok rfl (Nat.le_of_ble_eq_true rfl)
  unfold A30
  simp only [initL, Nat.reduceAdd]
  unfold encFn at hpt ⊢
  simp -implicitDefEqProofs (maxSteps := 2000000) (disch := omega) only [↓reduceIte, go_sem, Int.reduceToNat, Nat.reduceAdd, Nat.reduceLeDiff, Nat.reduceEqDiff, Nat.reduceSub, Nat.reduceMul, reduceCtorEq]
  refine callL hpt ?_
  simp -implicitDefEqProofs (maxSteps := 2000000) (disch := omega) only [↓reduceIte, go_sem, Int.reduceToNat, Nat.reduceAdd, Nat.reduceLeDiff, Nat.reduceEqDiff, Nat.reduceSub, Nat.reduceMul, reduceCtorEq]
  exact ⟨rfl, rfl⟩
/- The reference's All, Spans; the law's same. -/
theorem inZ (u : List Int) (x : Int) (hl : u.length < 1000000) : Ctr Tryd.prog 11 [.sl (u.map encN), .int .i64 x] [] (ret [.bool (decide (x ∈ u))]) := by
 apply ctr_b A11_ok rfl (Nat.le_of_ble_eq_true rfl)
 unfold A11
 simp only [initL, Nat.reduceAdd]
 simp -implicitDefEqProofs (maxSteps := 2000000) (disch := omega) only [↓reduceIte, go_sem, Int.reduceToNat, Nat.reduceAdd, Nat.reduceLeDiff, Nat.reduceEqDiff, Nat.reduceSub, Nat.reduceMul, reduceCtorEq]
 refine loopL (σ := Nat) (fun s => ⟨[(0, .sl (u.map encN)), (1, .int .i64 x), (5, .int .i64 s)], []⟩) (fun s => s ≤ u.length ∧ x ∉ u.take s) (fun s => u.length - s) 0 (by simp -implicitDefEqProofs (maxSteps := 2000000) (disch := omega) only [↓reduceIte, go_sem, Int.reduceToNat, Nat.reduceAdd, Nat.reduceLeDiff, Nat.reduceEqDiff, Nat.reduceSub, Nat.reduceMul, reduceCtorEq]; rfl) ⟨by omega, by simp⟩ ?_
 rintro s ⟨h1, h2⟩
 simp -implicitDefEqProofs (maxSteps := 2000000) (disch := omega) only [↓reduceIte, go_sem, Int.reduceToNat, Nat.reduceAdd, Nat.reduceLeDiff, Nat.reduceEqDiff, Nat.reduceSub, Nat.reduceMul, reduceCtorEq]
 refine ifD (fun c => ?_) (fun c => ?_)
 ·have hg : u[s]? = some u[s] := List.getElem?_eq_getElem (by omega)
  have hm := List.mem_of_getElem? hg
  have htk := snoc_take hg
  generalize u[s] = y at hg hm htk
  simp -implicitDefEqProofs (maxSteps := 2000000) (disch := omega) only [↓reduceIte, go_sem, Int.reduceToNat, Nat.reduceAdd, Nat.reduceLeDiff, Nat.reduceEqDiff, Nat.reduceSub, Nat.reduceMul, reduceCtorEq, hg, encN]
  refine ifE (fun e => ?_) (fun e => ?_)
  ·simp -implicitDefEqProofs (maxSteps := 2000000) (disch := omega) only [↓reduceIte, go_sem, Int.reduceToNat, Nat.reduceAdd, Nat.reduceLeDiff, Nat.reduceEqDiff, Nat.reduceSub, Nat.reduceMul, reduceCtorEq]
   rw [decide_eq_true (e ▸ hm)]
   exact ⟨rfl, rfl⟩
  ·simp -implicitDefEqProofs (maxSteps := 2000000) (disch := omega) only [↓reduceIte, go_sem, Int.reduceToNat, Nat.reduceAdd, Nat.reduceLeDiff, Nat.reduceEqDiff, Nat.reduceSub, Nat.reduceMul, reduceCtorEq]
   refine ⟨s + 1, by simp, ⟨by omega, ?_⟩, by omega⟩
   rw [htk, List.mem_append, List.mem_singleton]
   rintro (h | h)
   ·exact h2 h
   ·exact e h.symm
 ·simp -implicitDefEqProofs (maxSteps := 2000000) (disch := omega) only [↓reduceIte, go_sem, Int.reduceToNat, Nat.reduceAdd, Nat.reduceLeDiff, Nat.reduceEqDiff, Nat.reduceSub, Nat.reduceMul, reduceCtorEq]
  rw [List.take_of_length_le (by omega)] at h2
  rw [decide_eq_false h2]
  exact ⟨rfl, rfl⟩
/-- All that are present at a point, in the order of the function. -/
def stepA (f : Fnc) (S : List (List Nat)) (p : Int) (out : List Int) (g : Rg) : List Int := if (presB f S p g.id && !decide (g.id ∈ out)) = true then out ++ [g.id] else out
def allF (f : Fnc) (S : List (List Nat)) (p : Int) (k : Nat) : List Int := (f.regs.take k).foldl (stepA f S p) []
theorem allF_succ {f : Fnc} {S : List (List Nat)} {p : Int} {k : Nat} {g : Rg} (h : f.regs[k]? = some g) : allF f S p (k + 1) = stepA f S p (allF f S p k) g := by
 unfold allF
 rw [snoc_take h, List.foldl_append]
 rfl
theorem allF_len {f : Fnc} {S : List (List Nat)} {p : Int} {k : Nat} : (allF f S p k).length ≤ k := by
 induction k with
 | zero => simp [allF]
 | succ k ih =>
  cases h : f.regs[k]? with
  | some g =>
   rw [allF_succ h, stepA]
   split
   ·rw [List.length_append, List.length_singleton]; omega
   ·omega
  | none =>
   have hl : f.regs.length ≤ k := List.getElem?_eq_none_iff.1 h
   have : allF f S p (k + 1) = allF f S p k := by unfold allF; rw [List.take_of_length_le (by omega), List.take_of_length_le hl]
   rw [this]; omega
theorem C31 (f : Fnc) (h : NewOk f) (p : Int) : Ctr Tryd.prog 31 [.agg (encFn f), .int .i64 p] [] (ret [.sl ((allF f (succF f.blocks) p f.regs.length).map encN)]) := by
 have hpr := fun v => C30 f h p v
 generalize hS : succF f.blocks = S at hpr ⊢
 apply ctr_b A31_ok rfl (Nat.le_of_ble_eq_true rfl)
 unfold A31
 simp only [initL, Nat.reduceAdd]
 unfold encFn at hpr ⊢
 simp -implicitDefEqProofs (maxSteps := 2000000) (disch := omega) only [↓reduceIte, go_sem, Int.reduceToNat, Nat.reduceAdd, Nat.reduceLeDiff, Nat.reduceEqDiff, Nat.reduceSub, Nat.reduceMul, reduceCtorEq]
 refine loopL (σ := Nat) (fun k => ⟨[(1, .int .i64 p), (2, .rp [.bool f.machine, .str f.name, .sl (f.regs.map encRg), .sl (f.params.map encO), .sl (f.blocks.map encBk)]), (5, .hs 5 (allF f S p k).length 0 (allF f S p k).length), (6, .int .i64 (k : Int))], [(5, .arr (allF f S p k).length 1 ((allF f S p k).map encN))]⟩)
  (fun k => k ≤ f.regs.length) (fun k => f.regs.length - k) 0 (by simp -implicitDefEqProofs (maxSteps := 2000000) (disch := omega) only [↓reduceIte, go_sem, Int.reduceToNat, Nat.reduceAdd, Nat.reduceLeDiff, Nat.reduceEqDiff, Nat.reduceSub, Nat.reduceMul, reduceCtorEq]; rfl) (Nat.zero_le _) ?_
 intro k hk
 have hle := allF_len (f := f) (S := S) (p := p) (k := k)
 have hsu := fun g (hg : f.regs[k]? = some g) => allF_succ (S := S) (p := p) hg
 have hend : k = f.regs.length → allF f S p f.regs.length = allF f S p k := fun e => by rw [e]
 have hrl := h.rl
 generalize allF f S p k = O at hle hsu hend ⊢
 have hin := fun x => inZ O x (by omega)
 simp -implicitDefEqProofs (maxSteps := 2000000) (disch := omega) only [↓reduceIte, go_sem, Int.reduceToNat, Nat.reduceAdd, Nat.reduceLeDiff, Nat.reduceEqDiff, Nat.reduceSub, Nat.reduceMul, reduceCtorEq]
 refine ifD (fun c => ?_) (fun c => ?_)
 ·have hg : f.regs[k]? = some f.regs[k] := List.getElem?_eq_getElem (by omega)
  have hsu := hsu _ hg
  generalize f.regs[k] = g at hg hsu
  have hpr := hpr g.id
  have hin := hin g.id
  have hcp : ((O.length + 1 : Nat) : Int) * ((8 : Nat) : Int) ≤ 70368744177664 := by omega
  have htk : (O.map encN).take O.length = O.map encN := List.take_of_length_le (by simp)
  unfold stepA at hsu
  simp -implicitDefEqProofs (maxSteps := 2000000) (disch := omega) only [↓reduceIte, go_sem, Int.reduceToNat, Nat.reduceAdd, Nat.reduceLeDiff, Nat.reduceEqDiff, Nat.reduceSub, Nat.reduceMul, reduceCtorEq, hg, encRg]
  refine callL hpr ?_
  simp -implicitDefEqProofs (maxSteps := 2000000) (disch := omega) only [↓reduceIte, go_sem, Int.reduceToNat, Nat.reduceAdd, Nat.reduceLeDiff, Nat.reduceEqDiff, Nat.reduceSub, Nat.reduceMul, reduceCtorEq]
  generalize presB f S p g.id = Q at hsu
  cases Q with
  | false =>
   simp -implicitDefEqProofs (maxSteps := 2000000) (disch := omega) only [↓reduceIte, go_sem, Int.reduceToNat, Nat.reduceAdd, Nat.reduceLeDiff, Nat.reduceEqDiff, Nat.reduceSub, Nat.reduceMul, reduceCtorEq]
   refine accL (by kernel_rfl) ?_
   simp -implicitDefEqProofs (maxSteps := 2000000) (disch := omega) only [↓reduceIte, go_sem, Int.reduceToNat, Nat.reduceAdd, Nat.reduceLeDiff, Nat.reduceEqDiff, Nat.reduceSub, Nat.reduceMul, reduceCtorEq]
   exact ⟨k + 1, by rw [hsu]; rfl, by omega, by omega⟩
  | true =>
   simp -implicitDefEqProofs (maxSteps := 2000000) (disch := omega) only [↓reduceIte, go_sem, Int.reduceToNat, Nat.reduceAdd, Nat.reduceLeDiff, Nat.reduceEqDiff, Nat.reduceSub, Nat.reduceMul, reduceCtorEq, hg, encRg, htk]
   refine callL hin ?_
   simp -implicitDefEqProofs (maxSteps := 2000000) (disch := omega) only [↓reduceIte, go_sem, Int.reduceToNat, Nat.reduceAdd, Nat.reduceLeDiff, Nat.reduceEqDiff, Nat.reduceSub, Nat.reduceMul, reduceCtorEq]
   by_cases e : g.id ∈ O
   ·refine accL (by kernel_rfl) ?_
    simp -implicitDefEqProofs (maxSteps := 2000000) (disch := omega) only [↓reduceIte, go_sem, Int.reduceToNat, Nat.reduceAdd, Nat.reduceLeDiff, Nat.reduceEqDiff, Nat.reduceSub, Nat.reduceMul, reduceCtorEq, e]
    rw [if_neg (by simp [e])] at hsu
    exact ⟨k + 1, by rw [hsu]; rfl, by omega, by omega⟩
   ·refine accL (by kernel_rfl) ?_
    simp -implicitDefEqProofs (maxSteps := 2000000) (disch := omega) only [↓reduceIte, go_sem, Int.reduceToNat, Nat.reduceAdd, Nat.reduceLeDiff, Nat.reduceEqDiff, Nat.reduceSub, Nat.reduceMul, reduceCtorEq, e, hg, encRg, hcp]
    rw [if_pos (by simp [e])] at hsu
    exact ⟨k + 1, by rw [hsu]; simp [encN], by omega, by omega⟩
 ·simp -implicitDefEqProofs (maxSteps := 2000000) (disch := omega) only [↓reduceIte, go_sem, Int.reduceToNat, Nat.reduceAdd, Nat.reduceLeDiff, Nat.reduceEqDiff, Nat.reduceSub, Nat.reduceMul, reduceCtorEq]
  rw [hend (by omega)]
  exact ⟨rfl, rfl⟩
/- The reference's Spans; the law's same. -/
def stepR (H : Int → Bool) (B : Int → Int) (st : List (Int × Int) × Int × Int) (p : Int) : List (Int × Int) × Int × Int :=
 if H p = true then (setTo (if p ≠ st.2.1 + 1 ∨ B p ≠ st.2.2 then st.1 ++ [(p, p + 1)] else st.1) (p + 1), p, B p) else st
def spR (H : Int → Bool) (B : Int → Int) : Nat → List (Int × Int) × Int × Int
 | 0 => ([], -2, -1)
 | j + 1 => stepR H B (spR H B j) (j : Int)
theorem spR_inv {H : Int → Bool} {B : Int → Int} {j : Nat} : (spR H B j).1.length ≤ j ∧ -2 ≤ (spR H B j).2.1 ∧ (spR H B j).2.1 < j ∧ ((spR H B j).2.1 ≠ -2 → (spR H B j).1 ≠ []) := by
 induction j with
 | zero => exact ⟨Nat.le_refl _, Int.le_refl _, by simp only [spR]; omega, fun h => absurd rfl h⟩
 | succ j ih =>
  obtain ⟨h1, h2, h3, h4⟩ := ih
  have e : spR H B (j + 1) = stepR H B (spR H B j) (j : Int) := rfl
  rw [e]
  unfold stepR
  by_cases c : H j = true
  ·rw [if_pos c]
   simp only [setTo_len]
   refine ⟨?_, by omega, by omega, fun _ hc => ?_⟩
   ·split
    ·simp; omega
    ·omega
   ·have hl := congrArg List.length hc
    rw [setTo_len] at hl
    by_cases c2 : (j : Int) ≠ (spR H B j).2.1 + 1 ∨ B j ≠ (spR H B j).2.2
    ·rw [if_pos c2] at hl; simp at hl
    ·rw [if_neg c2] at hl
     exact h4 (by omega) (List.length_eq_zero_iff.1 hl)
  ·rw [if_neg c]
   exact ⟨by omega, h2, by omega, h4⟩
def spansF (f : Fnc) (S : List (List Nat)) (v : Int) : List (Int × Int) := (spR (fun p => presB f S p v) (fun p => (pntR f.blocks p).1) (2 * sumTo f.blocks f.blocks.length)).1
theorem C15 (f : Fnc) (h : NewOk f) (v : Int) : Ctr Tryd.prog 15 [.agg (encFn f), .int .i64 v] [] (ret [.sl ((spansF f (succF f.blocks) v).map encSp)]) := by
 have hB9 : f.blocks.length < 1000000000 := by have := h.pt.len; omega
 have hpr := fun p => C30 f h p v
 have hcn := C5 f hB9 (by have := h.pt.sum; omega)
 have hpt := fun p => C41 f p hB9 h.pt.sum
 have hsum := h.pt.sum
 unfold spansF
 generalize hS : succF f.blocks = S at hpr ⊢
 generalize hH : (fun p => presB f S p v) = H
 generalize hBB : (fun p => (pntR f.blocks p).1) = BB
 have hpr2 : ∀ p, Ctr Tryd.prog 30 [.agg (encFn f), .int .i64 p, .int .i64 v] [] (ret [.bool (H p)]) := fun p => by rw [← hH]; exact hpr p
 have hpt2 : ∀ p, Ctr Tryd.prog 41 [.agg (encFn f), .int .i64 p] [] (ret [.int .i64 (BB p), .int .i64 (pntR f.blocks p).2.1, .bool (pntR f.blocks p).2.2.1, .bool (pntR f.blocks p).2.2.2]) := fun p => by rw [← hBB]; exact hpt p
 clear hpr hpt
 generalize sumTo f.blocks f.blocks.length = cn at hcn hsum ⊢
 apply ctr_b A15_ok rfl (Nat.le_of_ble_eq_true rfl)
 unfold A15
 simp only [initL, Nat.reduceAdd]
 unfold encFn at hpr2 hcn hpt2 ⊢
 simp -implicitDefEqProofs (maxSteps := 2000000) (disch := omega) only [↓reduceIte, go_sem, Int.reduceToNat, Nat.reduceAdd, Nat.reduceLeDiff, Nat.reduceEqDiff, Nat.reduceSub, Nat.reduceMul, reduceCtorEq]
 refine loopL (σ := Nat) (fun j => ⟨[(1, .int .i64 v), (2, .rp [.bool f.machine, .str f.name, .sl (f.regs.map encRg), .sl (f.params.map encO), .sl (f.blocks.map encBk)]), (5, .hs 5 (spR H BB j).1.length 0 (spR H BB j).1.length), (6, .int .i64 (spR H BB j).2.1), (7, .int .i64 (spR H BB j).2.2), (8, .int .i64 (j : Int))], [(5, .arr (spR H BB j).1.length 2 ((spR H BB j).1.map encSp))]⟩)
  (fun j => j ≤ 2 * cn) (fun j => 2 * cn - j) 0 (by simp -implicitDefEqProofs (maxSteps := 2000000) (disch := omega) only [↓reduceIte, go_sem, Int.reduceToNat, Nat.reduceAdd, Nat.reduceLeDiff, Nat.reduceEqDiff, Nat.reduceSub, Nat.reduceMul, reduceCtorEq]; rfl) (Nat.zero_le _) ?_
 intro j hj
 have hinv := spR_inv (H := H) (B := BB) (j := j)
 have hjn : spR H BB (j + 1) = stepR H BB (spR H BB j) (j : Int) := rfl
 have hend : j = 2 * cn → spR H BB (2 * cn) = spR H BB j := fun e => by rw [e]
 generalize spR H BB j = st at hinv hjn hend ⊢
 obtain ⟨l, la, bl⟩ := st
 simp only at hinv hjn hend ⊢
 obtain ⟨i1, i2, i3, i4⟩ := hinv
 have hwc : IntKind.i64.wrap (2 * (cn : Int)) = 2 * (cn : Int) := wrap64 (by omega) (by omega)
 simp -implicitDefEqProofs (maxSteps := 2000000) (disch := omega) only [↓reduceIte, go_sem, Int.reduceToNat, Nat.reduceAdd, Nat.reduceLeDiff, Nat.reduceEqDiff, Nat.reduceSub, Nat.reduceMul, reduceCtorEq]
 refine callL hcn ?_
 simp -implicitDefEqProofs (maxSteps := 2000000) (disch := omega) only [↓reduceIte, go_sem, Int.reduceToNat, Nat.reduceAdd, Nat.reduceLeDiff, Nat.reduceEqDiff, Nat.reduceSub, Nat.reduceMul, reduceCtorEq, hwc]
 refine ifD (fun c => ?_) (fun c => ?_)
 ·have hpr := hpr2 (j : Int)
  have hpt := hpt2 (j : Int)
  have hst : stepR H BB (l, la, bl) (j : Int) = if H (j : Int) = true then (setTo (if (j : Int) ≠ la + 1 ∨ BB (j : Int) ≠ bl then l ++ [((j : Int), (j : Int) + 1)] else l) ((j : Int) + 1), (j : Int), BB (j : Int)) else (l, la, bl) := rfl
  rw [hst] at hjn
  generalize H (j : Int) = hb at hpr hjn
  generalize BB (j : Int) = bj at hpt hjn
  have hfin : ∀ l' : List (Int × Int), l' ≠ [] → ∃ m, l'.length = m + 1 ∧ (l'.map encSp)[m]? = some [.int .i64 (l'.getD m (0, 0)).1, .int .i64 (l'.getD m (0, 0)).2] ∧ (l'.map encSp).set m [.int .i64 (l'.getD m (0, 0)).1, .int .i64 ((j : Int) + 1)] = (setTo l' ((j : Int) + 1)).map encSp := fun l' hl' => by
   have hp0 := List.length_pos_iff.2 hl'
   refine ⟨l'.length - 1, by omega, ?_, ?_⟩
   ·rw [List.getElem?_map, List.getElem?_eq_getElem (by omega), List.getD_eq_getElem?_getD, List.getElem?_eq_getElem (by omega)]
    rfl
   ·rw [setTo, List.map_set]
    rfl
  have hw1 : IntKind.i64.wrap ((j : Int) + 1) = (j : Int) + 1 := wrap64 (by omega) (by omega)
  have hw2 : IntKind.i64.wrap (la + 1) = la + 1 := wrap64 (by omega) (by omega)
  have hcap : (((l.length + 1 : Nat) : Int)) * ((16 : Nat) : Int) ≤ 70368744177664 := by omega
  simp -implicitDefEqProofs (maxSteps := 2000000) (disch := omega) only [↓reduceIte, go_sem, Int.reduceToNat, Nat.reduceAdd, Nat.reduceLeDiff, Nat.reduceEqDiff, Nat.reduceSub, Nat.reduceMul, reduceCtorEq]
  refine callL hpr ?_
  simp -implicitDefEqProofs (maxSteps := 2000000) (disch := omega) only [↓reduceIte, go_sem, Int.reduceToNat, Nat.reduceAdd, Nat.reduceLeDiff, Nat.reduceEqDiff, Nat.reduceSub, Nat.reduceMul, reduceCtorEq]
  refine ifB (fun e => ?_) (fun e => ?_)
  ·simp -implicitDefEqProofs (maxSteps := 2000000) (disch := omega) only [↓reduceIte, go_sem, Int.reduceToNat, Nat.reduceAdd, Nat.reduceLeDiff, Nat.reduceEqDiff, Nat.reduceSub, Nat.reduceMul, reduceCtorEq]
   refine callL hpt ?_
   simp -implicitDefEqProofs (maxSteps := 2000000) (disch := omega) only [↓reduceIte, go_sem, Int.reduceToNat, Nat.reduceAdd, Nat.reduceLeDiff, Nat.reduceEqDiff, Nat.reduceSub, Nat.reduceMul, reduceCtorEq, hw2]
   rw [if_pos e] at hjn
   refine ifE (fun e1 => ?_) (fun e1 => ?_)
   ·simp -implicitDefEqProofs (maxSteps := 2000000) (disch := omega) only [↓reduceIte, go_sem, Int.reduceToNat, Nat.reduceAdd, Nat.reduceLeDiff, Nat.reduceEqDiff, Nat.reduceSub, Nat.reduceMul, reduceCtorEq]
    refine ifE (fun e2 => ?_) (fun e2 => ?_)
    ·have ⟨m, m1, m2, m3⟩ := hfin l (i4 (by omega))
     have i1 : ((m + 1 : Nat) : Int) - 1 = (m : Int) := by omega
     have hsl : (setTo l ((j : Int) + 1)).length = m + 1 := by rw [setTo_len, m1]
     rw [if_neg (by rintro (h | h); exact h e1; exact h e2)] at hjn
     simp -implicitDefEqProofs (maxSteps := 2000000) (disch := omega) only [↓reduceIte, go_sem, Int.reduceToNat, Nat.reduceAdd, Nat.reduceLeDiff, Nat.reduceEqDiff, Nat.reduceSub, Nat.reduceMul, reduceCtorEq, m1, i1, m2, m3, hw1]
     exact ⟨j + 1, by rw [hjn]; simp only [hsl]; rfl, by omega, by omega⟩
    ·have ⟨m, m1, m2, m3⟩ := hfin (l ++ [((j : Int), (j : Int) + 1)]) (by simp)
     have happ : l.map encSp ++ [[.int .i64 (j : Int), .int .i64 ((j : Int) + 1)]] = (l ++ [((j : Int), (j : Int) + 1)]).map encSp := by simp [encSp]
     have hsl : (setTo (l ++ [((j : Int), (j : Int) + 1)]) ((j : Int) + 1)).length = m + 1 := by rw [setTo_len, m1]
     have i0 : l.length = m := by simp at m1; exact m1
     have i1 : ((m + 1 : Nat) : Int) - 1 = (m : Int) := by omega
     rw [if_pos (Or.inr e2)] at hjn
     generalize l ++ [((j : Int), (j : Int) + 1)] = l' at m1 m2 m3 hjn happ hsl
     simp -implicitDefEqProofs (maxSteps := 2000000) (disch := omega) only [↓reduceIte, go_sem, Int.reduceToNat, Nat.reduceAdd, Nat.reduceLeDiff, Nat.reduceEqDiff, Nat.reduceSub, Nat.reduceMul, reduceCtorEq, hcap, i0, i1, happ, m1, m2, m3, hw1]
     exact ⟨j + 1, by rw [hjn]; simp only [hsl]; rfl, by omega, by omega⟩
   ·have ⟨m, m1, m2, m3⟩ := hfin (l ++ [((j : Int), (j : Int) + 1)]) (by simp)
    have happ : l.map encSp ++ [[.int .i64 (j : Int), .int .i64 ((j : Int) + 1)]] = (l ++ [((j : Int), (j : Int) + 1)]).map encSp := by simp [encSp]
    have hsl : (setTo (l ++ [((j : Int), (j : Int) + 1)]) ((j : Int) + 1)).length = m + 1 := by rw [setTo_len, m1]
    have i0 : l.length = m := by simp at m1; exact m1
    have i1 : ((m + 1 : Nat) : Int) - 1 = (m : Int) := by omega
    rw [if_pos (Or.inl e1)] at hjn
    generalize l ++ [((j : Int), (j : Int) + 1)] = l' at m1 m2 m3 hjn happ hsl
    simp -implicitDefEqProofs (maxSteps := 2000000) (disch := omega) only [↓reduceIte, go_sem, Int.reduceToNat, Nat.reduceAdd, Nat.reduceLeDiff, Nat.reduceEqDiff, Nat.reduceSub, Nat.reduceMul, reduceCtorEq, hcap, i0, i1, happ, m1, m2, m3, hw1]
    exact ⟨j + 1, by rw [hjn]; simp only [hsl]; rfl, by omega, by omega⟩
  ·simp -implicitDefEqProofs (maxSteps := 2000000) (disch := omega) only [↓reduceIte, go_sem, Int.reduceToNat, Nat.reduceAdd, Nat.reduceLeDiff, Nat.reduceEqDiff, Nat.reduceSub, Nat.reduceMul, reduceCtorEq]
   rw [if_neg (by rw [e]; decide)] at hjn
   exact ⟨j + 1, by rw [hjn]; rfl, by omega, by omega⟩
 ·simp -implicitDefEqProofs (maxSteps := 2000000) (disch := omega) only [↓reduceIte, go_sem, Int.reduceToNat, Nat.reduceAdd, Nat.reduceLeDiff, Nat.reduceEqDiff, Nat.reduceSub, Nat.reduceMul, reduceCtorEq]
  rw [hend (by omega)]
  exact ⟨rfl, rfl⟩
theorem C8 (l : List Int) (f : Fnc) (p : Int) (h : NewOk f) (hl : l.length < 1000000) (hs : l.Pairwise (· < ·)) (hp : ∀ x ∈ l, presB f (succF f.blocks) p x = true) (hc : l.length = (allF f (succF f.blocks) p f.regs.length).length) :
  Ctr Tryd.prog 8 [.sl (l.map encN), .agg (encFn f), .int .i64 p] [] (ret [.bool true]) := by
 have hpr := fun v => C30 f h p v
 have hal := C31 f h p
 generalize succF f.blocks = S at hp hc hpr hal
 generalize allF f S p f.regs.length = O at hc hal
 apply ctr_b A8_ok rfl (Nat.le_of_ble_eq_true rfl)
 unfold A8
 simp only [initL, Nat.reduceAdd]
 unfold encFn at hpr hal ⊢
 simp -implicitDefEqProofs (maxSteps := 2000000) (disch := omega) only [↓reduceIte, go_sem, Int.reduceToNat, Nat.reduceAdd, Nat.reduceLeDiff, Nat.reduceEqDiff, Nat.reduceSub, Nat.reduceMul, reduceCtorEq]
 refine loopL (σ := Nat) (fun i => ⟨[(0, .sl (l.map encN)), (2, .int .i64 p), (4, .rp [.bool f.machine, .str f.name, .sl (f.regs.map encRg), .sl (f.params.map encO), .sl (f.blocks.map encBk)]), (7, .int .i64 (i : Int)), (8, .int .i64 (i : Int))], []⟩)
  (fun i => i ≤ l.length) (fun i => l.length - i) 0 (by simp -implicitDefEqProofs (maxSteps := 2000000) (disch := omega) only [↓reduceIte, go_sem, Int.reduceToNat, Nat.reduceAdd, Nat.reduceLeDiff, Nat.reduceEqDiff, Nat.reduceSub, Nat.reduceMul, reduceCtorEq]; rfl) (Nat.zero_le _) ?_
 intro i hi
 simp -implicitDefEqProofs (maxSteps := 2000000) (disch := omega) only [↓reduceIte, go_sem, Int.reduceToNat, Nat.reduceAdd, Nat.reduceLeDiff, Nat.reduceEqDiff, Nat.reduceSub, Nat.reduceMul, reduceCtorEq]
 refine ifD (fun c => ?_) (fun c => ?_)
 ·have hg : l[i]? = some l[i] := List.getElem?_eq_getElem (by omega)
  have hpx := hp _ (List.mem_of_getElem? hg)
  have hpr := hpr l[i]
  have hlt : ∀ k (hk : k < i), l[k]'(by omega) < l[i] := fun k hk => List.pairwise_iff_getElem.1 hs k i (by omega) (by omega) hk
  have hg0 : 0 < i → ∃ y, l[i - 1]? = some y ∧ y < l[i] := fun h0 => ⟨l[i - 1]'(by omega), List.getElem?_eq_getElem (by omega), hlt (i - 1) (by omega)⟩
  clear hlt
  generalize l[i] = x at hg hpx hpr hg0
  rw [hpx] at hpr
  simp -implicitDefEqProofs (maxSteps := 2000000) (disch := omega) only [↓reduceIte, go_sem, Int.reduceToNat, Nat.reduceAdd, Nat.reduceLeDiff, Nat.reduceEqDiff, Nat.reduceSub, Nat.reduceMul, reduceCtorEq, hg, encN]
  refine callL hpr ?_
  simp -implicitDefEqProofs (maxSteps := 2000000) (disch := omega) only [↓reduceIte, go_sem, Int.reduceToNat, Nat.reduceAdd, Nat.reduceLeDiff, Nat.reduceEqDiff, Nat.reduceSub, Nat.reduceMul, reduceCtorEq]
  cases i with
  | zero =>
   simp -implicitDefEqProofs (maxSteps := 2000000) (disch := omega) only [↓reduceIte, go_sem, Int.reduceToNat, Nat.reduceAdd, Nat.reduceLeDiff, Nat.reduceEqDiff, Nat.reduceSub, Nat.reduceMul, reduceCtorEq]
   refine accL (by kernel_rfl) ?_
   simp -implicitDefEqProofs (maxSteps := 2000000) (disch := omega) only [↓reduceIte, go_sem, Int.reduceToNat, Nat.reduceAdd, Nat.reduceLeDiff, Nat.reduceEqDiff, Nat.reduceSub, Nat.reduceMul, reduceCtorEq]
   exact ⟨1, rfl, by omega, by omega⟩
  | succ i =>
   have ⟨y, hy, hyx⟩ := hg0 (by omega)
   rw [Nat.add_sub_cancel] at hy
   have hi1 : ((i + 1 : Nat) : Int) - 1 = (i : Int) := by omega
   have hge : decide (y ≥ x) = false := decide_eq_false (by omega)
   simp -implicitDefEqProofs (maxSteps := 2000000) (disch := omega) only [↓reduceIte, go_sem, Int.reduceToNat, Nat.reduceAdd, Nat.reduceLeDiff, Nat.reduceEqDiff, Nat.reduceSub, Nat.reduceMul, reduceCtorEq, hi1, hy, hg, encN, hge]
   refine accL (by kernel_rfl) ?_
   simp -implicitDefEqProofs (maxSteps := 2000000) (disch := omega) only [↓reduceIte, go_sem, Int.reduceToNat, Nat.reduceAdd, Nat.reduceLeDiff, Nat.reduceEqDiff, Nat.reduceSub, Nat.reduceMul, reduceCtorEq]
   exact ⟨i + 1 + 1, rfl, by omega, by omega⟩
 ·simp -implicitDefEqProofs (maxSteps := 2000000) (disch := omega) only [↓reduceIte, go_sem, Int.reduceToNat, Nat.reduceAdd, Nat.reduceLeDiff, Nat.reduceEqDiff, Nat.reduceSub, Nat.reduceMul, reduceCtorEq]
  refine callL hal ?_
  simp -implicitDefEqProofs (maxSteps := 2000000) (disch := omega) only [↓reduceIte, go_sem, Int.reduceToNat, Nat.reduceAdd, Nat.reduceLeDiff, Nat.reduceEqDiff, Nat.reduceSub, Nat.reduceMul, reduceCtorEq]
  have hii : i = O.length := by omega
  simp -implicitDefEqProofs (maxSteps := 2000000) (disch := omega) only [↓reduceIte, go_sem, Int.reduceToNat, Nat.reduceAdd, Nat.reduceLeDiff, Nat.reduceEqDiff, Nat.reduceSub, Nat.reduceMul, reduceCtorEq, hii]
  exact ⟨rfl, rfl⟩
end Go.Proofs.YtgbmneoeggdaoaaDoor.X
