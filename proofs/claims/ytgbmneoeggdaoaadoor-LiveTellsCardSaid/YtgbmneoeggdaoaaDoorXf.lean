/- A search in a sorted list. -/
import Derived.Test.YtgbmneoeggdaoaaDoorXe
import Derived.Test.YtgbmneoeggdaoaaDoorXb
import Derived.Test.YtgbmneoeggdaoaaDoorXc
namespace Go.Proofs.YtgbmneoeggdaoaaDoor.X
open Go Go.AM Go.Proofs
attribute [local go_sem ↓] w_skip w_lbl w_ops w_draw w_pre w_post w_alt w_seq w_cond w_block w_join w_loop w_exit w_ret w_scope w_rfunc l_nil l_cons th_n th_e th_r bk_n bk_r bk_e t_nil t_it t_call t_callg i_nil i_one i_grp s_nil s_cons c_call c_callg e_rar e_dynB e_mv e_nil e_dyn e_nilb e_frz o_mov o_bin o_eq o_un o_conv o_len o_slen o_idx o_aix o_fad o_load o_store o_boxp o_boxo o_boxm o_alloc o_allocm o_alloca o_nilarr o_build o_bslp o_bslo o_slc o_sslc o_slc3 o_sidx o_mkfn o_mkmv o_calle o_bslr o_ridx o_rload o_rapp o_vidx o_ext o_pick o_callf o_callb o_appd o_clear o_mxn o_field o_nilc o_make o_makeb o_buildm o_boxg o_mkif o_tass o_eqs o_callo o_callx k_int k_str k_bool k_grb k_grt k_some k_none k_rar k_arr k_lens k_lenf k_lenh k_lenb k_idxb k_idxs k_idxf k_idxh k_ld k_loadp k_loadr k_loade k_storer k_storee k_oin k_ois k_slcs k_slcf k_slch k_slc3s k_slc3f k_slc3h k_app2 k_apps k_appf k_apph k_cals k_cald k_cali k_cnb k_cna k_esn k_esc k_efn k_efc k_esh b_add b_sub b_mul b_quo b_rem b_and b_or b_xor b_andNot b_eql b_neq b_lss b_leq b_gtr b_geq b_shl b_shr b_seq b_sne b_slt b_sad q_bool q_str q_nil q_nilf u_not u_neg u_xor f_ret f_nor v_r v_c v_g v_reg v_ob v_set v_put v_so v_sn v_pn v_pc g_nil d_nil p_nil m_mv m_fr z_nil z_cons z_an z_ac g_cons d_cons p_cons y_mov y_bin y_eq y_un y_conv y_len y_slen y_idx y_aix y_fad y_load y_store y_boxp y_boxo y_boxm y_alloc y_alloca y_allocm y_nilarr y_build y_bslp y_bslo y_slc y_sslc y_slc3 y_sidx y_mkfn y_ext y_pick y_callf y_callb y_appd y_clear y_mxn y_field y_nilc y_make y_makeb y_buildm y_boxg y_mkif y_tass y_eqs y_callo y_mkmv y_callx y_vidx y_bslr y_ridx y_rload y_rapp y_calle nb_if
attribute [local go_sem] nbd VL_mk VL2_mk If_t If_f If_not If_and If_or If_dt If_df If_et If_ef If_ne Ck_t Ck_h Opt_s ld_a ld_c lm_a lm_c renL ren keepR renA idxM invL getObs mapOb renOb allNone putAll fzR fzO fz fzL fzOb fzB frzOk upFrom mapR resOne resA cellsOf oneA oneAL isP isPL okSt kRows kParts fillA setAt bor bor0 bor1 bor2 borC borI key0 key1 key2 keysA fillM cellsM cellM unif ptrA ifOk kPartsM getObsM allNoneM zipU scal0 scalar eqC evNil evNilF memK keyX hideM xbor scal1 scalX scalOb bndA mkMag showM lendV hideV hideR hideOb hideL hideO showL backO noneO mapA List.map_cons List.map_nil List.cons_append List.nil_append List.append_nil List.drop_zero List.drop_succ_cons List.drop_nil List.take_succ_cons List.take_zero List.take_nil List.length_cons List.length_nil List.length_map List.getElem?_map Option.map_some Option.map_none Int.toNat_natCast Int.toNat_zero Int.toNat_one Int.natCast_nonneg List.flatMap_cons List.flatMap_nil List.all_cons List.all_nil List.any_cons List.any_nil Bool.or_false Bool.false_or Bool.or_true Bool.true_or Bool.and_true Bool.true_and Bool.and_false Bool.false_and Bool.not_true Bool.not_false beq_self_eq_true nb_self all_nil List.forall_mem_cons tk_map tk_app bs_self bs_dec bq_t bq_f Bool.not_not decide_true decide_false Bool.not_not and_self and_true true_and eq_self List.reverse_cons List.reverse_nil List.getElem?_cons_zero List.getElem?_cons_succ cond_true cond_false List.set_cons_zero List.set_cons_succ Nat.zero_add Nat.add_zero if_true if_false ite_true ite_false implies_true wrap64 wrap8
open Go.Bits
set_option linter.unusedVariables false
set_option linter.unusedSimpArgs false
set_option maxRecDepth 10000
def Srt (u : List Int) : Prop := ∀ i j, i < j → j < u.length → u.getD i 0 ≤ u.getD j 0
/-- How many stand ahead of a number. -/
def lbI (u : List Int) (x : Int) : Nat := (u.filter fun y => decide (y < x)).length
theorem lbI_eq : ∀ {u : List Int} {x : Int} {k : Nat}, k ≤ u.length → (∀ i, i < k → u.getD i 0 < x) → (∀ i, k ≤ i → i < u.length → x ≤ u.getD i 0) → lbI u x = k
 | [], x, k, hk, _, _ => by simp at hk; simp [lbI, hk]
 | y :: u, x, k, hk, h1, h2 => by
  cases k with
  | zero =>
   have hy := h2 0 (Nat.le_refl _) (by simp)
   simp at hy
   have ih := lbI_eq (u := u) (x := x) (k := 0) (Nat.zero_le _) (fun i hi => by omega) fun i _ hl => by
    have := h2 (i + 1) (Nat.zero_le _) (by simp; omega)
    simpa using this
   unfold lbI at ih ⊢
   rw [List.filter_cons, if_neg (by simp; omega)]
   exact ih
  | succ k =>
   have hy := h1 0 (by omega)
   simp at hy
   have ih := lbI_eq (u := u) (x := x) (k := k) (by simpa using hk) (fun i hi => by
    have := h1 (i + 1) (by omega)
    simpa using this) fun i hi hl => by
    have := h2 (i + 1) (by omega) (by simp; omega)
    simpa using this
   unfold lbI at ih ⊢
   rw [List.filter_cons, if_pos (by simpa using hy), List.length_cons, ih]
theorem getZ {l : List Int} {k : Nat} (h : k < l.length) : l[k]? = some (l.getD k 0) := by simp [List.getD_eq_getElem?_getD, h]
def foundI (u : List Int) (x : Int) : Bool := decide (lbI u x < u.length) && (u.getD (lbI u x) 0 == x)
theorem C98 (x : Int) : Ctr Tryd.prog 98 [.int .i64 x] [] (ret [.bool false]) := by
 apply ctr_b A98_ok rfl (Nat.le_of_ble_eq_true rfl)
 unfold A98
 simp only [initL, Nat.reduceAdd]
 simp -implicitDefEqProofs (maxSteps := 2000000) (disch := omega) only [↓reduceIte, go_sem, Int.reduceToNat, Nat.reduceAdd, Nat.reduceLeDiff, Nat.reduceEqDiff, Nat.reduceSub, Nat.reduceMul, reduceCtorEq]
 exact ⟨by simp, rfl⟩
theorem C92 (x : Int) : Ctr Tryd.prog 92 [.int .i64 x] [] (ret [.bool false]) := by
 apply ctr_b A92_ok rfl (Nat.le_of_ble_eq_true rfl)
 unfold A92
 simp only [initL, Nat.reduceAdd]
 simp -implicitDefEqProofs (maxSteps := 2000000) (disch := omega) only [↓reduceIte, go_sem, Int.reduceToNat, Nat.reduceAdd, Nat.reduceLeDiff, Nat.reduceEqDiff, Nat.reduceSub, Nat.reduceMul, reduceCtorEq]
 exact ⟨by simp, rfl⟩
theorem C76 (x y : Int) : Ctr Tryd.prog 76 [.int .i64 x, .int .i64 y] [] (ret [.bool (decide (x < y))]) := by
 apply ctr_b A76_ok rfl (Nat.le_of_ble_eq_true rfl)
 unfold A76
 simp only [initL, Nat.reduceAdd]
 simp -implicitDefEqProofs (maxSteps := 2000000) (disch := omega) only [↓reduceIte, go_sem, Int.reduceToNat, Nat.reduceAdd, Nat.reduceLeDiff, Nat.reduceEqDiff, Nat.reduceSub, Nat.reduceMul, reduceCtorEq]
 refine callL (C98 x) ?_
 simp -implicitDefEqProofs (maxSteps := 2000000) (disch := omega) only [↓reduceIte, go_sem, Int.reduceToNat, Nat.reduceAdd, Nat.reduceLeDiff, Nat.reduceEqDiff, Nat.reduceSub, Nat.reduceMul, reduceCtorEq]
 exact ⟨rfl, rfl⟩
theorem C65 (u : List Int) (x : Int) (hs : Srt u) (hl : u.length < 1000000) : Ctr Tryd.prog 65 [.sl (u.map encN), .int .i64 x] [] (ret [.int .i64 (lbI u x : Int), .bool (foundI u x)]) := by
 apply ctr_b A65_ok rfl (Nat.le_of_ble_eq_true rfl)
 unfold A65
 simp only [initL, Nat.reduceAdd]
 simp -implicitDefEqProofs (maxSteps := 2000000) (disch := omega) only [↓reduceIte, go_sem, Int.reduceToNat, Nat.reduceAdd, Nat.reduceLeDiff, Nat.reduceEqDiff, Nat.reduceSub, Nat.reduceMul, reduceCtorEq]
 refine loopL (σ := Nat × Nat) (fun p => ⟨[(0, .sl (u.map encN)), (1, .int .i64 x), (6, .int .i64 (u.length : Int)), (7, .int .i64 (p.1 : Int)), (8, .int .i64 (p.2 : Int))], []⟩)
  (fun p => p.1 ≤ p.2 ∧ p.2 ≤ u.length ∧ (∀ i, i < p.1 → u.getD i 0 < x) ∧ (∀ i, p.2 ≤ i → i < u.length → x ≤ u.getD i 0)) (fun p => p.2 - p.1) (0, u.length) (by simp -implicitDefEqProofs (maxSteps := 2000000) (disch := omega) only [↓reduceIte, go_sem, Int.reduceToNat, Nat.reduceAdd, Nat.reduceLeDiff, Nat.reduceEqDiff, Nat.reduceSub, Nat.reduceMul, reduceCtorEq]; rfl) ⟨Nat.zero_le _, Nat.le_refl _, fun i hi => by omega, fun i hi hl => by omega⟩ ?_
 rintro ⟨i, j⟩ ⟨h1, h2, h3, h4⟩
 simp only at h1 h2 h3 h4
 simp -implicitDefEqProofs (maxSteps := 2000000) (disch := omega) only [↓reduceIte, go_sem, Int.reduceToNat, Nat.reduceAdd, Nat.reduceLeDiff, Nat.reduceEqDiff, Nat.reduceSub, Nat.reduceMul, reduceCtorEq]
 refine ifD (fun c => ?_) (fun c => ?_)
 ·have hm : IntKind.i64.wrap ((IntKind.u64.wrap ((i : Int) + (j : Int))).fdiv (2 ^ min 1 64)) = (((i + j) / 2 : Nat) : Int) := by
   rw [show (i : Int) + (j : Int) = ((i + j : Nat) : Int) by omega, wrapN (by omega), shr_nat (by omega), wrap64 (by omega) (by omega)]
  have hh : (i + j) / 2 < u.length ∧ i ≤ (i + j) / 2 ∧ (i + j) / 2 < j := by omega
  have hg := getZ hh.1
  have hlo : u.getD ((i + j) / 2) 0 < x → ∀ k, k < (i + j) / 2 + 1 → u.getD k 0 < x := fun h k hk => by
   by_cases e : k = (i + j) / 2
   ·rw [e]; exact h
   ·have := hs k ((i + j) / 2) (by omega) hh.1
    omega
  have hhi : x ≤ u.getD ((i + j) / 2) 0 → ∀ k, (i + j) / 2 ≤ k → k < u.length → x ≤ u.getD k 0 := fun h k hk hl => by
   by_cases e : k = (i + j) / 2
   ·rw [e]; exact h
   ·have := hs ((i + j) / 2) k (by omega) hl
    omega
  generalize u.getD ((i + j) / 2) 0 = y at hg hlo hhi
  generalize (i + j) / 2 = m at hm hh hg hlo hhi
  simp -implicitDefEqProofs (maxSteps := 2000000) (disch := omega) only [↓reduceIte, go_sem, Int.reduceToNat, Nat.reduceAdd, Nat.reduceLeDiff, Nat.reduceEqDiff, Nat.reduceSub, Nat.reduceMul, reduceCtorEq, hm, hg, encN]
  refine callL (C76 y x) ?_
  simp -implicitDefEqProofs (maxSteps := 2000000) (disch := omega) only [↓reduceIte, go_sem, Int.reduceToNat, Nat.reduceAdd, Nat.reduceLeDiff, Nat.reduceEqDiff, Nat.reduceSub, Nat.reduceMul, reduceCtorEq]
  refine ifD (fun e => ?_) (fun e => ?_)
  ·simp -implicitDefEqProofs (maxSteps := 2000000) (disch := omega) only [↓reduceIte, go_sem, Int.reduceToNat, Nat.reduceAdd, Nat.reduceLeDiff, Nat.reduceEqDiff, Nat.reduceSub, Nat.reduceMul, reduceCtorEq]
   exact ⟨(m + 1, j), by simp, ⟨by simp only; omega, h2, hlo e, h4⟩, by simp only; omega⟩
  ·simp -implicitDefEqProofs (maxSteps := 2000000) (disch := omega) only [↓reduceIte, go_sem, Int.reduceToNat, Nat.reduceAdd, Nat.reduceLeDiff, Nat.reduceEqDiff, Nat.reduceSub, Nat.reduceMul, reduceCtorEq]
   exact ⟨(i, m), by simp, ⟨hh.2.1, by simp only; omega, h3, hhi (by omega)⟩, by simp only; omega⟩
 ·have hij : i = j := by omega
  subst hij
  have hlb := lbI_eq h2 h3 h4
  simp -implicitDefEqProofs (maxSteps := 2000000) (disch := omega) only [↓reduceIte, go_sem, Int.reduceToNat, Nat.reduceAdd, Nat.reduceLeDiff, Nat.reduceEqDiff, Nat.reduceSub, Nat.reduceMul, reduceCtorEq]
  refine ifD (fun e => ?_) (fun e => ?_)
  ·have hg := getZ (l := u) (k := i) (by omega)
   have hf : foundI u x = (u.getD i 0 == x) := by unfold foundI; rw [hlb, decide_eq_true (show i < u.length by omega)]; rfl
   generalize u.getD i 0 = y at hg hf
   simp -implicitDefEqProofs (maxSteps := 2000000) (disch := omega) only [↓reduceIte, go_sem, Int.reduceToNat, Nat.reduceAdd, Nat.reduceLeDiff, Nat.reduceEqDiff, Nat.reduceSub, Nat.reduceMul, reduceCtorEq, hg, encN]
   refine ifE (fun e2 => ?_) (fun e2 => ?_)
   ·simp -implicitDefEqProofs (maxSteps := 2000000) (disch := omega) only [↓reduceIte, go_sem, Int.reduceToNat, Nat.reduceAdd, Nat.reduceLeDiff, Nat.reduceEqDiff, Nat.reduceSub, Nat.reduceMul, reduceCtorEq, hg, encN]
    exact ⟨by rw [hf, hlb, e2]; simp, rfl⟩
   ·simp -implicitDefEqProofs (maxSteps := 2000000) (disch := omega) only [↓reduceIte, go_sem, Int.reduceToNat, Nat.reduceAdd, Nat.reduceLeDiff, Nat.reduceEqDiff, Nat.reduceSub, Nat.reduceMul, reduceCtorEq, hg, encN]
    refine callL (C92 y) ?_
    simp -implicitDefEqProofs (maxSteps := 2000000) (disch := omega) only [↓reduceIte, go_sem, Int.reduceToNat, Nat.reduceAdd, Nat.reduceLeDiff, Nat.reduceEqDiff, Nat.reduceSub, Nat.reduceMul, reduceCtorEq]
    exact ⟨by rw [hf, hlb]; simp [e2], rfl⟩
  ·have hf : foundI u x = false := by unfold foundI; rw [hlb, decide_eq_false (show ¬ i < u.length by omega)]; rfl
   simp -implicitDefEqProofs (maxSteps := 2000000) (disch := omega) only [↓reduceIte, go_sem, Int.reduceToNat, Nat.reduceAdd, Nat.reduceLeDiff, Nat.reduceEqDiff, Nat.reduceSub, Nat.reduceMul, reduceCtorEq]
   exact ⟨by rw [hf, hlb], rfl⟩
/- The numbers of a function's instructions: package point. -/
def sumTo (bs : List Blk) (b : Nat) : Nat := ((bs.take b).map fun b => b.code.length).sum
theorem sumTo_succ {bs : List Blk} {b : Nat} {x : Blk} (h : bs[b]? = some x) : sumTo bs (b + 1) = sumTo bs b + x.code.length := by
 unfold sumTo
 rw [snoc_take h]
 simp
theorem sumTo_mono {bs : List Blk} {a b : Nat} (h : a ≤ b) : sumTo bs a ≤ sumTo bs b := by
 induction b with
 | zero => rw [show a = 0 by omega]; exact Nat.le_refl _
 | succ b ih =>
  by_cases e : a = b + 1
  ·rw [e]; exact Nat.le_refl _
  ·have := ih (by omega)
   cases hb : bs[b]? with
   | none =>
    have hl : bs.length ≤ b := by simpa using hb
    unfold sumTo at this ⊢
    rw [List.take_of_length_le hl] at this
    rw [List.take_of_length_le (show bs.length ≤ b + 1 by omega)]
    exact this
   | some x =>
    rw [sumTo_succ hb]
    omega
theorem sumTo_max {bs : List Blk} {b : Nat} : sumTo bs b ≤ sumTo bs bs.length := by
 by_cases h : b ≤ bs.length
 ·exact sumTo_mono h
 ·unfold sumTo
  rw [List.take_of_length_le (show bs.length ≤ b by omega), List.take_length]
  exact Nat.le_refl _
def firstsTo (bs : List Blk) (s : Nat) : List Int := (List.range (s + 1)).map fun b => (sumTo bs b : Int)
theorem firstsTo_len {bs : List Blk} {s : Nat} : (firstsTo bs s).length = s + 1 := by simp [firstsTo]
theorem firstsTo_succ {bs : List Blk} {s : Nat} : firstsTo bs (s + 1) = firstsTo bs s ++ [(sumTo bs (s + 1) : Int)] := by
 unfold firstsTo
 rw [List.range_succ, List.map_append]
 rfl
theorem firstsTo_get {bs : List Blk} {s b : Nat} (h : b ≤ s) : (firstsTo bs s)[b]? = some (sumTo bs b : Int) := by
 simp [firstsTo, show b < s + 1 by omega]
theorem firstsTo_getD {bs : List Blk} {s b : Nat} (h : b ≤ s) : (firstsTo bs s).getD b 0 = (sumTo bs b : Int) := by
 rw [List.getD_eq_getElem?_getD, firstsTo_get h]
 rfl
def ptP (bs : List Blk) : AV := .rp [.sl ((firstsTo bs bs.length).map encN)]
set_option maxHeartbeats 1000000 in
theorem C20 (f : Fnc) (hl : f.blocks.length < 1000000) (hs : sumTo f.blocks f.blocks.length < 1000000000) : Ctr Tryd.prog 20 [.agg (encFn f)] [] (ret [ptP f.blocks]) := by
 apply ctr_b A20_ok rfl (Nat.le_of_ble_eq_true rfl)
 unfold A20
 simp only [initL, Nat.reduceAdd]
 simp -implicitDefEqProofs (maxSteps := 2000000) (disch := omega) only [↓reduceIte, go_sem, Int.reduceToNat, Nat.reduceAdd, Nat.reduceLeDiff, Nat.reduceEqDiff, Nat.reduceSub, Nat.reduceMul, reduceCtorEq, encFn]
 refine loopL (σ := Nat) (fun s => ⟨[(3, .ref 9 0), (4, .int .i64 (sumTo f.blocks s : Int)), (11, .sl (f.blocks.map encBk)), (12, .int .i64 (f.blocks.length : Int)), (13, .int .i64 (s : Int))], [(9, .box [.hs 1009 s 0 (s + 1)]), (1009, .arr s 1 ((firstsTo f.blocks s).map encN))]⟩)
  (fun s => s ≤ f.blocks.length) (fun s => f.blocks.length - s) 0 (by simp -implicitDefEqProofs (maxSteps := 2000000) (disch := omega) only [↓reduceIte, go_sem, Int.reduceToNat, Nat.reduceAdd, Nat.reduceLeDiff, Nat.reduceEqDiff, Nat.reduceSub, Nat.reduceMul, reduceCtorEq]; rfl) (Nat.zero_le _) ?_
 intro s h1
 have hmx := sumTo_max (bs := f.blocks) (b := s)
 have hmx2 := sumTo_max (bs := f.blocks) (b := s + 1)
 have hnx := firstsTo_succ (bs := f.blocks) (s := s)
 have hln := firstsTo_len (bs := f.blocks) (s := s)
 have hsn := fun x (h : f.blocks[s]? = some x) => sumTo_succ h
 have hend : s = f.blocks.length → ptP f.blocks = .rp [.sl ((firstsTo f.blocks s).map encN)] := fun e => by rw [e]; rfl
 generalize firstsTo f.blocks s = FS at hnx hln hend ⊢
 generalize hq : sumTo f.blocks s = q at hmx hsn ⊢
 simp -implicitDefEqProofs (maxSteps := 2000000) (disch := omega) only [↓reduceIte, go_sem, Int.reduceToNat, Nat.reduceAdd, Nat.reduceLeDiff, Nat.reduceEqDiff, Nat.reduceSub, Nat.reduceMul, reduceCtorEq]
 refine ifD (fun c => ?_) (fun c => ?_)
 ·have hb : f.blocks[s]? = some f.blocks[s] := List.getElem?_eq_getElem (by omega)
  have hsn1 := hsn _ hb
  generalize f.blocks[s] = b at hb hsn1
  have hcp : ((s + 1 + 1 : Nat) : Int) * ((8 : Nat) : Int) ≤ 70368744177664 := by omega
  have hw : IntKind.i64.wrap ((q : Int) + (b.code.length : Int)) = ((q + b.code.length : Nat) : Int) := by rw [wrap64 (by omega) (by omega)]; omega
  simp -implicitDefEqProofs (maxSteps := 2000000) (disch := omega) only [↓reduceIte, go_sem, Int.reduceToNat, Nat.reduceAdd, Nat.reduceLeDiff, Nat.reduceEqDiff, Nat.reduceSub, Nat.reduceMul, reduceCtorEq, hb, encBk, hcp, hln, hw]
  exact ⟨s + 1, by simp only [hnx, hsn1]; simp [encN], by omega, by omega⟩
 ·simp -implicitDefEqProofs (maxSteps := 2000000) (disch := omega) only [↓reduceIte, go_sem, Int.reduceToNat, Nat.reduceAdd, Nat.reduceLeDiff, Nat.reduceEqDiff, Nat.reduceSub, Nat.reduceMul, reduceCtorEq]
  have hse : s = f.blocks.length := by omega
  refine ⟨?_, rfl⟩
  rw [hend hse, List.take_of_length_le (by simp [hln])]
theorem C69 (bs : List Blk) (hl : bs.length < 1000000) : Ctr Tryd.prog 69 [ptP bs] [] (ret [.int .i64 (bs.length : Int)]) := by
 apply ctr_b A69_ok rfl (Nat.le_of_ble_eq_true rfl)
 unfold A69
 have hln := firstsTo_len (bs := bs) (s := bs.length)
 simp only [initL, Nat.reduceAdd, ptP]
 simp -implicitDefEqProofs (maxSteps := 2000000) (disch := omega) only [↓reduceIte, go_sem, Int.reduceToNat, Nat.reduceAdd, Nat.reduceLeDiff, Nat.reduceEqDiff, Nat.reduceSub, Nat.reduceMul, reduceCtorEq, hln]
 refine ⟨?_, rfl⟩
 congr 2
 omega
theorem C68 (l : List Int) (i d : Int) : Ctr Tryd.prog 68 [.sl (l.map encN), .int .i64 i, .int .i64 d] [] (ret [.int .i64 (if 0 ≤ i ∧ i < l.length then l.getD i.toNat 0 else d)]) := by
 apply ctr_b A68_ok rfl (Nat.le_of_ble_eq_true rfl)
 unfold A68
 simp only [initL, Nat.reduceAdd]
 simp -implicitDefEqProofs (maxSteps := 2000000) (disch := omega) only [↓reduceIte, go_sem, Int.reduceToNat, Nat.reduceAdd, Nat.reduceLeDiff, Nat.reduceEqDiff, Nat.reduceSub, Nat.reduceMul, reduceCtorEq]
 refine ifD (fun c => ?_) (fun c => ?_)
 ·simp -implicitDefEqProofs (maxSteps := 2000000) (disch := omega) only [↓reduceIte, go_sem, Int.reduceToNat, Nat.reduceAdd, Nat.reduceLeDiff, Nat.reduceEqDiff, Nat.reduceSub, Nat.reduceMul, reduceCtorEq]
  exact ⟨by rw [if_neg (by omega)], rfl⟩
 ·simp -implicitDefEqProofs (maxSteps := 2000000) (disch := omega) only [↓reduceIte, go_sem, Int.reduceToNat, Nat.reduceAdd, Nat.reduceLeDiff, Nat.reduceEqDiff, Nat.reduceSub, Nat.reduceMul, reduceCtorEq]
  refine ifD (fun c2 => ?_) (fun c2 => ?_)
  ·simp -implicitDefEqProofs (maxSteps := 2000000) (disch := omega) only [↓reduceIte, go_sem, Int.reduceToNat, Nat.reduceAdd, Nat.reduceLeDiff, Nat.reduceEqDiff, Nat.reduceSub, Nat.reduceMul, reduceCtorEq]
   exact ⟨by rw [if_neg (by omega)], rfl⟩
  ·have hg := getZ (l := l) (k := i.toNat) (by omega)
   simp -implicitDefEqProofs (maxSteps := 2000000) (disch := omega) only [↓reduceIte, go_sem, Int.reduceToNat, Nat.reduceAdd, Nat.reduceLeDiff, Nat.reduceEqDiff, Nat.reduceSub, Nat.reduceMul, reduceCtorEq, hg, encN]
   exact ⟨by rw [if_pos (by omega)], rfl⟩
theorem C44 (bs : List Blk) (hl : bs.length < 1000000) : Ctr Tryd.prog 44 [ptP bs] [] (ret [.int .i64 (sumTo bs bs.length : Int)]) := by
 have hn := C68 (firstsTo bs bs.length) (bs.length : Int) 0
 rw [if_pos (by rw [firstsTo_len]; omega), Int.toNat_natCast, firstsTo_getD (Nat.le_refl _)] at hn
 have hb := C69 bs hl
 simp only [ptP] at hb
 apply ctr_b A44_ok rfl (Nat.le_of_ble_eq_true rfl)
 unfold A44
 simp only [initL, Nat.reduceAdd, ptP]
 simp -implicitDefEqProofs (maxSteps := 2000000) (disch := omega) only [↓reduceIte, go_sem, Int.reduceToNat, Nat.reduceAdd, Nat.reduceLeDiff, Nat.reduceEqDiff, Nat.reduceSub, Nat.reduceMul, reduceCtorEq]
 refine callL hb ?_
 simp -implicitDefEqProofs (maxSteps := 2000000) (disch := omega) only [↓reduceIte, go_sem, Int.reduceToNat, Nat.reduceAdd, Nat.reduceLeDiff, Nat.reduceEqDiff, Nat.reduceSub, Nat.reduceMul, reduceCtorEq]
 refine callL hn ?_
 simp -implicitDefEqProofs (maxSteps := 2000000) (disch := omega) only [↓reduceIte, go_sem, Int.reduceToNat, Nat.reduceAdd, Nat.reduceLeDiff, Nat.reduceEqDiff, Nat.reduceSub, Nat.reduceMul, reduceCtorEq]
 refine accL (by kernel_rfl) ?_
 simp -implicitDefEqProofs (maxSteps := 2000000) (disch := omega) only [↓reduceIte, go_sem, Int.reduceToNat, Nat.reduceAdd, Nat.reduceLeDiff, Nat.reduceEqDiff, Nat.reduceSub, Nat.reduceMul, reduceCtorEq]
 exact ⟨rfl, rfl⟩
def lenP (bs : List Blk) (b : Int) : Int := if 0 ≤ b ∧ b < bs.length then (sumTo bs (b.toNat + 1) : Int) - (sumTo bs b.toNat : Int) else 0
def ofP (bs : List Blk) (b i : Int) : Int := if i < 0 ∨ lenP bs b ≤ i then -1 else (sumTo bs b.toNat : Int) + i
def aheadP (bs : List Blk) (b i : Int) : Int := if ofP bs b i < 0 then -1 else 2 * ofP bs b i
def behindP (bs : List Blk) (b i : Int) : Int := if i = lenP bs b - 1 then -1 else if ofP bs b i < 0 then -1 else 2 * ofP bs b i + 1
def spanP (bs : List Blk) (b : Int) : Int × Int := if lenP bs b = 0 then (0, 0) else (aheadP bs b 0, aheadP bs b (lenP bs b - 1) + 1)
def whB (bs : List Blk) (n : Int) : Nat := lbI (firstsTo bs bs.length) (n + 1) - 1
def whereP (bs : List Blk) (n : Int) : Int × Int := if n < 0 ∨ (sumTo bs bs.length : Int) ≤ n then (-1, -1) else ((whB bs n : Int), n - (sumTo bs (whB bs n) : Int))
def blockP (bs : List Blk) (p : Int) : Int := if p < 0 then -1 else if 0 ≤ (whereP bs (p / 2)).1 ∧ p % 2 = 1 ∧ behindP bs (whereP bs (p / 2)).1 (whereP bs (p / 2)).2 < 0 then -1 else (whereP bs (p / 2)).1
/-- A function that is not too long. -/
structure PtOk (bs : List Blk) : Prop where
 len : bs.length < 900000
 sum : sumTo bs bs.length < 1000000000
theorem lenP_le {bs : List Blk} (h : PtOk bs) (b : Int) : 0 ≤ lenP bs b ∧ lenP bs b < 1000000000 := by
 unfold lenP
 split
 ·have h1 := sumTo_mono (bs := bs) (a := b.toNat) (b := b.toNat + 1) (by omega)
  have h2 := sumTo_max (bs := bs) (b := b.toNat + 1)
  have := h.sum
  omega
 ·omega
theorem lenP_in {bs : List Blk} {b i : Int} (h1 : 0 ≤ i) (h2 : i < lenP bs b) : 0 ≤ b ∧ b < bs.length ∧ (sumTo bs b.toNat : Int) + i < sumTo bs (b.toNat + 1) := by
 unfold lenP at h2
 split at h2
 ·omega
 ·omega
theorem C64 (bs : List Blk) (h : PtOk bs) (b : Int) : Ctr Tryd.prog 64 [ptP bs, .int .i64 b] [] (ret [.int .i64 (lenP bs b)]) := by
 have hl := h.len
 have hb := C69 bs (by have := h.len; omega)
 have hll := lenP_le h b
 simp only [ptP] at hb
 apply ctr_b A64_ok rfl (Nat.le_of_ble_eq_true rfl)
 unfold A64
 simp only [initL, Nat.reduceAdd, ptP]
 simp -implicitDefEqProofs (maxSteps := 2000000) (disch := omega) only [↓reduceIte, go_sem, Int.reduceToNat, Nat.reduceAdd, Nat.reduceLeDiff, Nat.reduceEqDiff, Nat.reduceSub, Nat.reduceMul, reduceCtorEq]
 refine ifD (fun c => ?_) (fun c => ?_)
 ·simp -implicitDefEqProofs (maxSteps := 2000000) (disch := omega) only [↓reduceIte, go_sem, Int.reduceToNat, Nat.reduceAdd, Nat.reduceLeDiff, Nat.reduceEqDiff, Nat.reduceSub, Nat.reduceMul, reduceCtorEq]
  exact ⟨by rw [lenP, if_neg (by omega)], rfl⟩
 ·simp -implicitDefEqProofs (maxSteps := 2000000) (disch := omega) only [↓reduceIte, go_sem, Int.reduceToNat, Nat.reduceAdd, Nat.reduceLeDiff, Nat.reduceEqDiff, Nat.reduceSub, Nat.reduceMul, reduceCtorEq]
  refine callL hb ?_
  simp -implicitDefEqProofs (maxSteps := 2000000) (disch := omega) only [↓reduceIte, go_sem, Int.reduceToNat, Nat.reduceAdd, Nat.reduceLeDiff, Nat.reduceEqDiff, Nat.reduceSub, Nat.reduceMul, reduceCtorEq]
  refine ifD (fun c2 => ?_) (fun c2 => ?_)
  ·simp -implicitDefEqProofs (maxSteps := 2000000) (disch := omega) only [↓reduceIte, go_sem, Int.reduceToNat, Nat.reduceAdd, Nat.reduceLeDiff, Nat.reduceEqDiff, Nat.reduceSub, Nat.reduceMul, reduceCtorEq]
   exact ⟨by rw [lenP, if_neg (by omega)], rfl⟩
  ·have g1 := firstsTo_get (bs := bs) (s := bs.length) (b := b.toNat) (by omega)
   have g2 := firstsTo_get (bs := bs) (s := bs.length) (b := b.toNat + 1) (by omega)
   have t1 : (b + 1).toNat = b.toNat + 1 := by omega
   have hw : lenP bs b = (sumTo bs (b.toNat + 1) : Int) - (sumTo bs b.toNat : Int) := by rw [lenP, if_pos (by omega)]
   have hw2 : IntKind.i64.wrap ((sumTo bs (b.toNat + 1) : Int) - (sumTo bs b.toNat : Int)) = lenP bs b := by rw [← hw, wrap64 (by omega) (by omega)]
   simp -implicitDefEqProofs (maxSteps := 2000000) (disch := omega) only [↓reduceIte, go_sem, Int.reduceToNat, Nat.reduceAdd, Nat.reduceLeDiff, Nat.reduceEqDiff, Nat.reduceSub, Nat.reduceMul, reduceCtorEq, g1, g2, t1, encN, hw2]
   refine accL (by kernel_rfl) ?_
   simp -implicitDefEqProofs (maxSteps := 2000000) (disch := omega) only [↓reduceIte, go_sem, Int.reduceToNat, Nat.reduceAdd, Nat.reduceLeDiff, Nat.reduceEqDiff, Nat.reduceSub, Nat.reduceMul, reduceCtorEq, g1, g2, t1, encN, hw2]
   exact ⟨rfl, rfl⟩
theorem ofP_le {bs : List Blk} (h : PtOk bs) (b i : Int) : -1 ≤ ofP bs b i ∧ ofP bs b i < 1000000000 := by
 unfold ofP
 split
 ·omega
 ·have := lenP_in (bs := bs) (b := b) (i := i) (by omega) (by omega)
  have h2 := sumTo_max (bs := bs) (b := b.toNat + 1)
  have := h.sum
  omega
theorem C38 (bs : List Blk) (h : PtOk bs) (b i : Int) : Ctr Tryd.prog 38 [ptP bs, .int .i64 b, .int .i64 i] [] (ret [.int .i64 (ofP bs b i)]) := by
 have hl := h.len
 have hle := C64 bs h b
 have hll := ofP_le h b i
 simp only [ptP] at hle
 apply ctr_b A38_ok rfl (Nat.le_of_ble_eq_true rfl)
 unfold A38
 simp only [initL, Nat.reduceAdd, ptP]
 simp -implicitDefEqProofs (maxSteps := 2000000) (disch := omega) only [↓reduceIte, go_sem, Int.reduceToNat, Nat.reduceAdd, Nat.reduceLeDiff, Nat.reduceEqDiff, Nat.reduceSub, Nat.reduceMul, reduceCtorEq]
 refine ifD (fun c => ?_) (fun c => ?_)
 ·simp -implicitDefEqProofs (maxSteps := 2000000) (disch := omega) only [↓reduceIte, go_sem, Int.reduceToNat, Nat.reduceAdd, Nat.reduceLeDiff, Nat.reduceEqDiff, Nat.reduceSub, Nat.reduceMul, reduceCtorEq]
  exact ⟨by rw [ofP, if_pos (by omega)], rfl⟩
 ·simp -implicitDefEqProofs (maxSteps := 2000000) (disch := omega) only [↓reduceIte, go_sem, Int.reduceToNat, Nat.reduceAdd, Nat.reduceLeDiff, Nat.reduceEqDiff, Nat.reduceSub, Nat.reduceMul, reduceCtorEq]
  refine callL hle ?_
  simp -implicitDefEqProofs (maxSteps := 2000000) (disch := omega) only [↓reduceIte, go_sem, Int.reduceToNat, Nat.reduceAdd, Nat.reduceLeDiff, Nat.reduceEqDiff, Nat.reduceSub, Nat.reduceMul, reduceCtorEq]
  refine ifD (fun c2 => ?_) (fun c2 => ?_)
  ·simp -implicitDefEqProofs (maxSteps := 2000000) (disch := omega) only [↓reduceIte, go_sem, Int.reduceToNat, Nat.reduceAdd, Nat.reduceLeDiff, Nat.reduceEqDiff, Nat.reduceSub, Nat.reduceMul, reduceCtorEq]
   exact ⟨by rw [ofP, if_pos (by omega)], rfl⟩
  ·have hin := lenP_in (bs := bs) (b := b) (i := i) (by omega) (by omega)
   have g1 := firstsTo_get (bs := bs) (s := bs.length) (b := b.toNat) (by omega)
   have hw : ofP bs b i = (sumTo bs b.toNat : Int) + i := by rw [ofP, if_neg (by omega)]
   have hw2 : IntKind.i64.wrap ((sumTo bs b.toNat : Int) + i) = ofP bs b i := by rw [← hw, wrap64 (by omega) (by omega)]
   simp -implicitDefEqProofs (maxSteps := 2000000) (disch := omega) only [↓reduceIte, go_sem, Int.reduceToNat, Nat.reduceAdd, Nat.reduceLeDiff, Nat.reduceEqDiff, Nat.reduceSub, Nat.reduceMul, reduceCtorEq, g1, encN, hw2]
   exact ⟨rfl, rfl⟩
theorem C66 (bs : List Blk) (h : PtOk bs) (b i : Int) : Ctr Tryd.prog 66 [ptP bs, .int .i64 b, .int .i64 i] [] (ret [.int .i64 (aheadP bs b i)]) := by
 have ho := C38 bs h b i
 have hll := ofP_le h b i
 simp only [ptP] at ho
 unfold aheadP
 generalize ofP bs b i = q at ho hll
 apply ctr_b A66_ok rfl (Nat.le_of_ble_eq_true rfl)
 unfold A66
 simp only [initL, Nat.reduceAdd, ptP]
 simp -implicitDefEqProofs (maxSteps := 2000000) (disch := omega) only [↓reduceIte, go_sem, Int.reduceToNat, Nat.reduceAdd, Nat.reduceLeDiff, Nat.reduceEqDiff, Nat.reduceSub, Nat.reduceMul, reduceCtorEq]
 refine callL ho ?_
 simp -implicitDefEqProofs (maxSteps := 2000000) (disch := omega) only [↓reduceIte, go_sem, Int.reduceToNat, Nat.reduceAdd, Nat.reduceLeDiff, Nat.reduceEqDiff, Nat.reduceSub, Nat.reduceMul, reduceCtorEq]
 refine ifD (fun c => ?_) (fun c => ?_)
 ·simp -implicitDefEqProofs (maxSteps := 2000000) (disch := omega) only [↓reduceIte, go_sem, Int.reduceToNat, Nat.reduceAdd, Nat.reduceLeDiff, Nat.reduceEqDiff, Nat.reduceSub, Nat.reduceMul, reduceCtorEq]
  exact ⟨by rw [if_pos c], rfl⟩
 ·simp -implicitDefEqProofs (maxSteps := 2000000) (disch := omega) only [↓reduceIte, go_sem, Int.reduceToNat, Nat.reduceAdd, Nat.reduceLeDiff, Nat.reduceEqDiff, Nat.reduceSub, Nat.reduceMul, reduceCtorEq]
  exact ⟨by rw [if_neg c], rfl⟩
theorem C89 (bs : List Blk) (h : PtOk bs) (b i : Int) : Ctr Tryd.prog 89 [ptP bs, .int .i64 b, .int .i64 i] [] (ret [.int .i64 (behindP bs b i)]) := by
 have ho := C38 bs h b i
 have hle := C64 bs h b
 have hll := ofP_le h b i
 have hl2 := lenP_le h b
 simp only [ptP] at ho hle
 unfold behindP
 generalize ofP bs b i = q at ho hll
 generalize lenP bs b = m at hle hl2
 apply ctr_b A89_ok rfl (Nat.le_of_ble_eq_true rfl)
 unfold A89
 simp only [initL, Nat.reduceAdd, ptP]
 simp -implicitDefEqProofs (maxSteps := 2000000) (disch := omega) only [↓reduceIte, go_sem, Int.reduceToNat, Nat.reduceAdd, Nat.reduceLeDiff, Nat.reduceEqDiff, Nat.reduceSub, Nat.reduceMul, reduceCtorEq]
 refine callL hle ?_
 simp -implicitDefEqProofs (maxSteps := 2000000) (disch := omega) only [↓reduceIte, go_sem, Int.reduceToNat, Nat.reduceAdd, Nat.reduceLeDiff, Nat.reduceEqDiff, Nat.reduceSub, Nat.reduceMul, reduceCtorEq]
 refine ifE (fun e => ?_) (fun e => ?_)
 ·simp -implicitDefEqProofs (maxSteps := 2000000) (disch := omega) only [↓reduceIte, go_sem, Int.reduceToNat, Nat.reduceAdd, Nat.reduceLeDiff, Nat.reduceEqDiff, Nat.reduceSub, Nat.reduceMul, reduceCtorEq]
  exact ⟨by rw [if_pos e], rfl⟩
 ·simp -implicitDefEqProofs (maxSteps := 2000000) (disch := omega) only [↓reduceIte, go_sem, Int.reduceToNat, Nat.reduceAdd, Nat.reduceLeDiff, Nat.reduceEqDiff, Nat.reduceSub, Nat.reduceMul, reduceCtorEq]
  refine callL ho ?_
  simp -implicitDefEqProofs (maxSteps := 2000000) (disch := omega) only [↓reduceIte, go_sem, Int.reduceToNat, Nat.reduceAdd, Nat.reduceLeDiff, Nat.reduceEqDiff, Nat.reduceSub, Nat.reduceMul, reduceCtorEq]
  refine ifD (fun c => ?_) (fun c => ?_)
  ·simp -implicitDefEqProofs (maxSteps := 2000000) (disch := omega) only [↓reduceIte, go_sem, Int.reduceToNat, Nat.reduceAdd, Nat.reduceLeDiff, Nat.reduceEqDiff, Nat.reduceSub, Nat.reduceMul, reduceCtorEq]
   exact ⟨by rw [if_neg e, if_pos c], rfl⟩
  ·simp -implicitDefEqProofs (maxSteps := 2000000) (disch := omega) only [↓reduceIte, go_sem, Int.reduceToNat, Nat.reduceAdd, Nat.reduceLeDiff, Nat.reduceEqDiff, Nat.reduceSub, Nat.reduceMul, reduceCtorEq]
   exact ⟨by rw [if_neg e, if_neg c], rfl⟩
theorem C42 (bs : List Blk) (h : PtOk bs) (b : Int) : Ctr Tryd.prog 42 [ptP bs, .int .i64 b] [] (ret [.int .i64 (spanP bs b).1, .int .i64 (spanP bs b).2]) := by
 have hle := C64 bs h b
 have ha := C66 bs h b 0
 have ha2 := C66 bs h b (lenP bs b - 1)
 have hl2 := lenP_le h b
 have hq : -1 ≤ aheadP bs b (lenP bs b - 1) ∧ aheadP bs b (lenP bs b - 1) < 2000000000 := by
  have := ofP_le h b (lenP bs b - 1)
  unfold aheadP
  split <;> omega
 simp only [ptP] at hle ha ha2
 unfold spanP
 generalize aheadP bs b (lenP bs b - 1) = y at ha2 hq
 generalize aheadP bs b 0 = x at ha
 generalize lenP bs b = m at hle hl2 ha2
 apply ctr_b A42_ok rfl (Nat.le_of_ble_eq_true rfl)
 unfold A42
 simp only [initL, Nat.reduceAdd, ptP]
 simp -implicitDefEqProofs (maxSteps := 2000000) (disch := omega) only [↓reduceIte, go_sem, Int.reduceToNat, Nat.reduceAdd, Nat.reduceLeDiff, Nat.reduceEqDiff, Nat.reduceSub, Nat.reduceMul, reduceCtorEq]
 refine callL hle ?_
 simp -implicitDefEqProofs (maxSteps := 2000000) (disch := omega) only [↓reduceIte, go_sem, Int.reduceToNat, Nat.reduceAdd, Nat.reduceLeDiff, Nat.reduceEqDiff, Nat.reduceSub, Nat.reduceMul, reduceCtorEq]
 refine ifE (fun e => ?_) (fun e => ?_)
 ·simp -implicitDefEqProofs (maxSteps := 2000000) (disch := omega) only [↓reduceIte, go_sem, Int.reduceToNat, Nat.reduceAdd, Nat.reduceLeDiff, Nat.reduceEqDiff, Nat.reduceSub, Nat.reduceMul, reduceCtorEq]
  exact ⟨by rw [if_pos e], rfl⟩
 ·simp -implicitDefEqProofs (maxSteps := 2000000) (disch := omega) only [↓reduceIte, go_sem, Int.reduceToNat, Nat.reduceAdd, Nat.reduceLeDiff, Nat.reduceEqDiff, Nat.reduceSub, Nat.reduceMul, reduceCtorEq]
  refine callL ha ?_
  simp -implicitDefEqProofs (maxSteps := 2000000) (disch := omega) only [↓reduceIte, go_sem, Int.reduceToNat, Nat.reduceAdd, Nat.reduceLeDiff, Nat.reduceEqDiff, Nat.reduceSub, Nat.reduceMul, reduceCtorEq]
  refine callL ha2 ?_
  simp -implicitDefEqProofs (maxSteps := 2000000) (disch := omega) only [↓reduceIte, go_sem, Int.reduceToNat, Nat.reduceAdd, Nat.reduceLeDiff, Nat.reduceEqDiff, Nat.reduceSub, Nat.reduceMul, reduceCtorEq]
  exact ⟨by rw [if_neg e], rfl⟩
/- The numbers of a function's instructions, back: Where, Block. -/
theorem lb_ex {u : List Int} {x : Int} (hs : Srt u) : ∃ k, k ≤ u.length ∧ (∀ i, i < k → u.getD i 0 < x) ∧ (∀ i, k ≤ i → i < u.length → x ≤ u.getD i 0) := by
 suffices h : ∀ s, s ≤ u.length → ∃ k, k ≤ s ∧ (∀ i, i < k → u.getD i 0 < x) ∧ (∀ i, k ≤ i → i < s → x ≤ u.getD i 0) from h u.length (Nat.le_refl _)
 intro s
 induction s with
 | zero => exact fun _ => ⟨0, Nat.le_refl _, fun i hi => absurd hi (Nat.not_lt_zero _), fun i _ hi => absurd hi (Nat.not_lt_zero _)⟩
 | succ s ih =>
  intro hl
  have ⟨k, h1, h2, h3⟩ := ih (by omega)
  by_cases hk : k = s
  ·by_cases hx : u.getD s 0 < x
   ·refine ⟨s + 1, Nat.le_refl _, fun i hi => ?_, fun i a b => absurd a (by omega)⟩
    by_cases e : i = s
    ·rw [e]; exact hx
    ·exact h2 i (by omega)
   ·refine ⟨s, by omega, fun i hi => h2 i (by omega), fun i a b => ?_⟩
    rw [show i = s by omega]
    omega
  ·refine ⟨k, by omega, h2, fun i a b => ?_⟩
   by_cases e : i = s
   ·rw [e]
    have := h3 k (by omega) (by omega)
    have := hs k s (by omega) (by omega)
    omega
   ·exact h3 i a (by omega)
theorem firstsTo_srt {bs : List Blk} {s : Nat} : Srt (firstsTo bs s) := by
 intro i j hi hj
 rw [firstsTo_len] at hj
 rw [firstsTo_getD (by omega), firstsTo_getD (by omega)]
 have := sumTo_mono (bs := bs) (a := i) (b := j) (by omega)
 omega
theorem whB_spec {bs : List Blk} {n : Int} (h1 : 0 ≤ n) (h2 : n < sumTo bs bs.length) : lbI (firstsTo bs bs.length) (n + 1) = whB bs n + 1 ∧ whB bs n < bs.length ∧ (sumTo bs (whB bs n) : Int) ≤ n ∧ n < sumTo bs (whB bs n + 1) := by
 have ⟨k, a, b, c⟩ := lb_ex (x := n + 1) (firstsTo_srt (bs := bs) (s := bs.length))
 have e := lbI_eq a b c
 have hk : 1 ≤ k := by
  apply Nat.le_of_not_lt
  intro hk
  have := c 0 (by omega) (by rw [firstsTo_len]; omega)
  rw [firstsTo_getD (by omega)] at this
  have hz : sumTo bs 0 = 0 := rfl
  rw [hz] at this
  omega
 have hk2 : k ≤ bs.length := by
  apply Nat.le_of_not_lt
  intro hk
  have := b bs.length (by omega)
  rw [firstsTo_getD (by omega)] at this
  omega
 have hw : whB bs n = k - 1 := by rw [whB, e]
 have hb := b (k - 1) (by omega)
 have hc := c k (Nat.le_refl _) (by rw [firstsTo_len]; omega)
 rw [firstsTo_getD (by omega)] at hb hc
 rw [hw, show k - 1 + 1 = k by omega]
 exact ⟨e, by omega, by omega, by omega⟩
/-- The block that holds the place, told by its own two sums. -/
theorem whB_of {bs : List Blk} {b : Nat} {n : Int} (hb : b < bs.length) (h1 : (sumTo bs b : Int) ≤ n) (h2 : n < sumTo bs (b + 1)) : whB bs n = b := by
 have hmx := sumTo_max (bs := bs) (b := b + 1)
 have ⟨_, w1, w2, w3⟩ := whB_spec (bs := bs) (n := n) (by omega) (by omega)
 rcases Nat.lt_trichotomy (whB bs n) b with h | h | h
 ·have := sumTo_mono (bs := bs) (a := whB bs n + 1) (b := b) (by omega)
  omega
 ·exact h
 ·have := sumTo_mono (bs := bs) (a := b + 1) (b := whB bs n) (by omega)
  omega
theorem C59 (bs : List Blk) (h : PtOk bs) (n : Int) : Ctr Tryd.prog 59 [ptP bs, .int .i64 n] [] (ret [.int .i64 (whereP bs n).1, .int .i64 (whereP bs n).2]) := by
 have hl := h.len
 have hs := h.sum
 have hc := C44 bs (by omega)
 have hq := fun (a : 0 ≤ n) (b : n < sumTo bs bs.length) => C65 (firstsTo bs bs.length) (n + 1) firstsTo_srt (by rw [firstsTo_len]; omega)
 simp only [ptP] at hc
 apply ctr_b A59_ok rfl (Nat.le_of_ble_eq_true rfl)
 unfold A59
 simp only [initL, Nat.reduceAdd, ptP]
 have hmain : 0 ≤ n → n < sumTo bs bs.length → IntKind.i64.wrap (n + 1) = n + 1 := fun a b => wrap64 (by omega) (by omega)
 simp -implicitDefEqProofs (maxSteps := 2000000) (disch := omega) only [↓reduceIte, go_sem, Int.reduceToNat, Nat.reduceAdd, Nat.reduceLeDiff, Nat.reduceEqDiff, Nat.reduceSub, Nat.reduceMul, reduceCtorEq]
 refine ifD (fun c => ?_) (fun c => ?_)
 ·simp -implicitDefEqProofs (maxSteps := 2000000) (disch := omega) only [↓reduceIte, go_sem, Int.reduceToNat, Nat.reduceAdd, Nat.reduceLeDiff, Nat.reduceEqDiff, Nat.reduceSub, Nat.reduceMul, reduceCtorEq]
  exact ⟨by rw [whereP, if_pos (by omega)], rfl⟩
 ·simp -implicitDefEqProofs (maxSteps := 2000000) (disch := omega) only [↓reduceIte, go_sem, Int.reduceToNat, Nat.reduceAdd, Nat.reduceLeDiff, Nat.reduceEqDiff, Nat.reduceSub, Nat.reduceMul, reduceCtorEq]
  refine callL hc ?_
  simp -implicitDefEqProofs (maxSteps := 2000000) (disch := omega) only [↓reduceIte, go_sem, Int.reduceToNat, Nat.reduceAdd, Nat.reduceLeDiff, Nat.reduceEqDiff, Nat.reduceSub, Nat.reduceMul, reduceCtorEq]
  refine ifD (fun c2 => ?_) (fun c2 => ?_)
  ·simp -implicitDefEqProofs (maxSteps := 2000000) (disch := omega) only [↓reduceIte, go_sem, Int.reduceToNat, Nat.reduceAdd, Nat.reduceLeDiff, Nat.reduceEqDiff, Nat.reduceSub, Nat.reduceMul, reduceCtorEq]
   exact ⟨by rw [whereP, if_pos (by omega)], rfl⟩
  ·have ⟨w0, w1, w2, w3⟩ := whB_spec (bs := bs) (n := n) (by omega) (by omega)
   have hq := hq (by omega) (by omega)
   have hmain := hmain (by omega) (by omega)
   have hw : whereP bs n = ((whB bs n : Int), n - (sumTo bs (whB bs n) : Int)) := by rw [whereP, if_neg (by omega)]
   have hg := firstsTo_get (bs := bs) (s := bs.length) (b := whB bs n) (by omega)
   rw [w0] at hq
   rw [hw]
   have hk : ((whB bs n + 1 : Nat) : Int) - 1 = ((whB bs n : Nat) : Int) := by omega
   have hd : IntKind.i64.wrap (n - (sumTo bs (whB bs n) : Int)) = n - (sumTo bs (whB bs n) : Int) := wrap64 (by omega) (by omega)
   generalize whB bs n = k at *
   simp -implicitDefEqProofs (maxSteps := 2000000) (disch := omega) only [↓reduceIte, go_sem, Int.reduceToNat, Nat.reduceAdd, Nat.reduceLeDiff, Nat.reduceEqDiff, Nat.reduceSub, Nat.reduceMul, reduceCtorEq, hmain]
   refine callL hq ?_
   simp -implicitDefEqProofs (maxSteps := 2000000) (disch := omega) only [↓reduceIte, go_sem, Int.reduceToNat, Nat.reduceAdd, Nat.reduceLeDiff, Nat.reduceEqDiff, Nat.reduceSub, Nat.reduceMul, reduceCtorEq]
   refine ifB (fun b => ?_) (fun b => ?_)
   ·simp -implicitDefEqProofs (maxSteps := 2000000) (disch := omega) only [↓reduceIte, go_sem, Int.reduceToNat, Nat.reduceAdd, Nat.reduceLeDiff, Nat.reduceEqDiff, Nat.reduceSub, Nat.reduceMul, reduceCtorEq, hk, hg, encN, hd]
    refine accL (by kernel_rfl) ?_
    simp -implicitDefEqProofs (maxSteps := 2000000) (disch := omega) only [↓reduceIte, go_sem, Int.reduceToNat, Nat.reduceAdd, Nat.reduceLeDiff, Nat.reduceEqDiff, Nat.reduceSub, Nat.reduceMul, reduceCtorEq, hk, hg, encN, hd]
    exact ⟨rfl, rfl⟩
   ·simp -implicitDefEqProofs (maxSteps := 2000000) (disch := omega) only [↓reduceIte, go_sem, Int.reduceToNat, Nat.reduceAdd, Nat.reduceLeDiff, Nat.reduceEqDiff, Nat.reduceSub, Nat.reduceMul, reduceCtorEq, hk, hg, encN, hd]
    refine accL (by kernel_rfl) ?_
    simp -implicitDefEqProofs (maxSteps := 2000000) (disch := omega) only [↓reduceIte, go_sem, Int.reduceToNat, Nat.reduceAdd, Nat.reduceLeDiff, Nat.reduceEqDiff, Nat.reduceSub, Nat.reduceMul, reduceCtorEq, hk, hg, encN, hd]
    exact ⟨rfl, rfl⟩
theorem C58 (bs : List Blk) (h : PtOk bs) (p : Int) (hp : p < 9223372036854775808) : Ctr Tryd.prog 58 [ptP bs, .int .i64 p] [] (ret [.int .i64 (blockP bs p)]) := by
 have hw := C59 bs h (p.tdiv 2)
 have hb := C89 bs h (whereP bs (p / 2)).1 (whereP bs (p / 2)).2
 simp only [ptP] at hw hb
 apply ctr_b A58_ok rfl (Nat.le_of_ble_eq_true rfl)
 unfold A58
 simp only [initL, Nat.reduceAdd, ptP, blockP]
 simp -implicitDefEqProofs (maxSteps := 2000000) (disch := omega) only [↓reduceIte, go_sem, Int.reduceToNat, Nat.reduceAdd, Nat.reduceLeDiff, Nat.reduceEqDiff, Nat.reduceSub, Nat.reduceMul, reduceCtorEq]
 refine ifD (fun c => ?_) (fun c => ?_)
 ·simp -implicitDefEqProofs (maxSteps := 2000000) (disch := omega) only [↓reduceIte, go_sem, Int.reduceToNat, Nat.reduceAdd, Nat.reduceLeDiff, Nat.reduceEqDiff, Nat.reduceSub, Nat.reduceMul, reduceCtorEq]
  exact ⟨by rw [if_pos c], rfl⟩
 ·have ht : p.tdiv 2 = p / 2 := Int.tdiv_eq_ediv_of_nonneg (by omega)
  have ht2 : IntKind.i64.wrap (p / 2) = p / 2 := wrap64 (by omega) (by omega)
  rw [ht] at hw
  generalize whereP bs (p / 2) = w at hw hb
  generalize behindP bs w.1 w.2 = z at hb
  simp -implicitDefEqProofs (maxSteps := 2000000) (disch := omega) only [↓reduceIte, go_sem, Int.reduceToNat, Nat.reduceAdd, Nat.reduceLeDiff, Nat.reduceEqDiff, Nat.reduceSub, Nat.reduceMul, reduceCtorEq, ht, ht2]
  refine callL hw ?_
  simp -implicitDefEqProofs (maxSteps := 2000000) (disch := omega) only [↓reduceIte, go_sem, Int.reduceToNat, Nat.reduceAdd, Nat.reduceLeDiff, Nat.reduceEqDiff, Nat.reduceSub, Nat.reduceMul, reduceCtorEq]
  refine ifD (fun c2 => ?_) (fun c2 => ?_)
  ·have ht3 : p.tmod 2 = p % 2 := Int.tmod_eq_emod_of_nonneg (by omega)
   simp -implicitDefEqProofs (maxSteps := 2000000) (disch := omega) only [↓reduceIte, go_sem, Int.reduceToNat, Nat.reduceAdd, Nat.reduceLeDiff, Nat.reduceEqDiff, Nat.reduceSub, Nat.reduceMul, reduceCtorEq, ht3]
   refine ifE (fun e => ?_) (fun e => ?_)
   ·simp -implicitDefEqProofs (maxSteps := 2000000) (disch := omega) only [↓reduceIte, go_sem, Int.reduceToNat, Nat.reduceAdd, Nat.reduceLeDiff, Nat.reduceEqDiff, Nat.reduceSub, Nat.reduceMul, reduceCtorEq]
    refine callL hb ?_
    simp -implicitDefEqProofs (maxSteps := 2000000) (disch := omega) only [↓reduceIte, go_sem, Int.reduceToNat, Nat.reduceAdd, Nat.reduceLeDiff, Nat.reduceEqDiff, Nat.reduceSub, Nat.reduceMul, reduceCtorEq]
    refine ifD (fun c3 => ?_) (fun c3 => ?_)
    ·simp -implicitDefEqProofs (maxSteps := 2000000) (disch := omega) only [↓reduceIte, go_sem, Int.reduceToNat, Nat.reduceAdd, Nat.reduceLeDiff, Nat.reduceEqDiff, Nat.reduceSub, Nat.reduceMul, reduceCtorEq]
     exact ⟨by rw [if_neg c, if_pos (by omega)], rfl⟩
    ·simp -implicitDefEqProofs (maxSteps := 2000000) (disch := omega) only [↓reduceIte, go_sem, Int.reduceToNat, Nat.reduceAdd, Nat.reduceLeDiff, Nat.reduceEqDiff, Nat.reduceSub, Nat.reduceMul, reduceCtorEq]
     exact ⟨by rw [if_neg c, if_neg (by omega)], rfl⟩
   ·simp -implicitDefEqProofs (maxSteps := 2000000) (disch := omega) only [↓reduceIte, go_sem, Int.reduceToNat, Nat.reduceAdd, Nat.reduceLeDiff, Nat.reduceEqDiff, Nat.reduceSub, Nat.reduceMul, reduceCtorEq]
    exact ⟨by rw [if_neg c, if_neg (by omega)], rfl⟩
  ·simp -implicitDefEqProofs (maxSteps := 2000000) (disch := omega) only [↓reduceIte, go_sem, Int.reduceToNat, Nat.reduceAdd, Nat.reduceLeDiff, Nat.reduceEqDiff, Nat.reduceSub, Nat.reduceMul, reduceCtorEq]
   exact ⟨by rw [if_neg c, if_neg (by omega)], rfl⟩
/- Sets of any version; a set's copy. -/
set_option maxHeartbeats 1000000
def setV (v : Nat) (bs : List Bool) : List Ob := [.box [.int .i64 (bs.length : Int), .hs 1 v 0 (nw bs.length)], .arr v 1 (encWs bs)]
theorem addV (v : Nat) (bs : List Bool) (i : Int) (hl : bs.length < 2 ^ 62) : Ctr Tryd.prog 60 [.ref 0 0, .int .i64 i] (setV v bs) (retO [.bool (addR bs i)] (setV v (addS bs i))) := by
 unfold setV
 rw [addS_len]
 apply ctr_b A60_ok rfl (Nat.le_of_ble_eq_true rfl)
 unfold A60
 simp only [initL, Nat.reduceAdd]
 simp -implicitDefEqProofs (maxSteps := 2000000) (disch := omega) only [↓reduceIte, go_sem, Int.reduceToNat, Nat.reduceAdd, Nat.reduceLeDiff, Nat.reduceEqDiff, Nat.reduceSub, Nat.reduceMul, reduceCtorEq, encWs_take]
 refine callL (C67 bs i) ?_
 simp -implicitDefEqProofs (maxSteps := 2000000) (disch := omega) only [↓reduceIte, go_sem, Int.reduceToNat, Nat.reduceAdd, Nat.reduceLeDiff, Nat.reduceEqDiff, Nat.reduceSub, Nat.reduceMul, reduceCtorEq, encWs_take]
 cases h : inB bs i with
 | false =>
  simp -implicitDefEqProofs (maxSteps := 2000000) (disch := omega) only [↓reduceIte, go_sem, Int.reduceToNat, Nat.reduceAdd, Nat.reduceLeDiff, Nat.reduceEqDiff, Nat.reduceSub, Nat.reduceMul, reduceCtorEq]
  have e1 : addR bs i = false := by simp [addR, h]
  have e2 : addS bs i = bs := by simp [addS, h]
  rw [e1, e2]
  exact ⟨rfl, rfl⟩
 | true =>
  simp -implicitDefEqProofs (maxSteps := 2000000) (disch := omega) only [↓reduceIte, go_sem, Int.reduceToNat, Nat.reduceAdd, Nat.reduceLeDiff, Nat.reduceEqDiff, Nat.reduceSub, Nat.reduceMul, reduceCtorEq, encWs_take]
  refine callL (C43 bs i hl) ?_
  simp -implicitDefEqProofs (maxSteps := 2000000) (disch := omega) only [↓reduceIte, go_sem, Int.reduceToNat, Nat.reduceAdd, Nat.reduceLeDiff, Nat.reduceEqDiff, Nat.reduceSub, Nat.reduceMul, reduceCtorEq]
  cases h2 : hasB bs i with
  | true =>
   simp -implicitDefEqProofs (maxSteps := 2000000) (disch := omega) only [↓reduceIte, go_sem, Int.reduceToNat, Nat.reduceAdd, Nat.reduceLeDiff, Nat.reduceEqDiff, Nat.reduceSub, Nat.reduceMul, reduceCtorEq]
   have e1 : addR bs i = false := by simp [addR, h2]
   rw [e1, addS_has h2]
   exact ⟨rfl, rfl⟩
  | false =>
   have hb := h
   unfold inB at hb
   have hb := of_decide_eq_true hb
   obtain ⟨m, rfl⟩ := Int.eq_ofNat_of_zero_le hb.1
   have hm : m < bs.length := by omega
   have hk := nw_div hm
   have q1 := wrapI (m := m / 64) (by omega)
   have q2 := shl_nat (j := m % 64) (by omega)
   have q3 := bOr_nat (a := wordAt bs (m / 64)) (b := 2 ^ (m % 64)) (chunk_lt bs (m / 64)) (Nat.pow_lt_pow_right (by omega) (by omega))
   have q4 := encWs_set bs (bs.set m true) (m / 64) _ (add_word bs m hm)
   simp -implicitDefEqProofs (maxSteps := 2000000) (disch := omega) only [↓reduceIte, go_sem, Int.reduceToNat, Nat.reduceAdd, Nat.reduceLeDiff, Nat.reduceEqDiff, Nat.reduceSub, Nat.reduceMul, reduceCtorEq, quo64, rem64, q1, q2, encWs_get bs hk, q3]
   refine accL (by kernel_rfl) ?_
   simp -implicitDefEqProofs (maxSteps := 2000000) (disch := omega) only [↓reduceIte, go_sem, Int.reduceToNat, Nat.reduceAdd, Nat.reduceLeDiff, Nat.reduceEqDiff, Nat.reduceSub, Nat.reduceMul, reduceCtorEq]
   have e1 : addR bs (m : Int) = true := by simp [addR, h, h2]
   have e2 : addS bs (m : Int) = bs.set m true := by simp [addS, h]
   rw [e1, e2]
   refine ⟨rfl, ?_⟩
   rw [← q4]
   rfl
theorem dropV (v : Nat) (bs : List Bool) (i : Int) (hl : bs.length < 2 ^ 62) : Ctr Tryd.prog 39 [.ref 0 0, .int .i64 i] (setV v bs) (retO [.bool (hasB bs i)] (setV v (dropS bs i))) := by
 unfold setV
 rw [dropS_len]
 apply ctr_b A39_ok rfl (Nat.le_of_ble_eq_true rfl)
 unfold A39
 simp only [initL, Nat.reduceAdd]
 simp -implicitDefEqProofs (maxSteps := 2000000) (disch := omega) only [↓reduceIte, go_sem, Int.reduceToNat, Nat.reduceAdd, Nat.reduceLeDiff, Nat.reduceEqDiff, Nat.reduceSub, Nat.reduceMul, reduceCtorEq, encWs_take]
 refine callL (C43 bs i hl) ?_
 simp -implicitDefEqProofs (maxSteps := 2000000) (disch := omega) only [↓reduceIte, go_sem, Int.reduceToNat, Nat.reduceAdd, Nat.reduceLeDiff, Nat.reduceEqDiff, Nat.reduceSub, Nat.reduceMul, reduceCtorEq]
 cases h : hasB bs i with
 | false =>
  simp -implicitDefEqProofs (maxSteps := 2000000) (disch := omega) only [↓reduceIte, go_sem, Int.reduceToNat, Nat.reduceAdd, Nat.reduceLeDiff, Nat.reduceEqDiff, Nat.reduceSub, Nat.reduceMul, reduceCtorEq]
  rw [dropS_has h]
  exact ⟨rfl, rfl⟩
 | true =>
  have hin := hasB_in h
  have hb := hin
  unfold inB at hb
  have hb := of_decide_eq_true hb
  obtain ⟨m, rfl⟩ := Int.eq_ofNat_of_zero_le hb.1
  have hm : m < bs.length := by omega
  have hk := nw_div hm
  have q1 := wrapI (m := m / 64) (by omega)
  have q2 := shl_nat (j := m % 64) (by omega)
  have q3 := bAndNot_nat (a := wordAt bs (m / 64)) (b := 2 ^ (m % 64)) (chunk_lt bs (m / 64)) (Nat.pow_lt_pow_right (by omega) (by omega))
  have q4 := encWs_set bs (bs.set m false) (m / 64) _ (drop_word bs m hm)
  simp -implicitDefEqProofs (maxSteps := 2000000) (disch := omega) only [↓reduceIte, go_sem, Int.reduceToNat, Nat.reduceAdd, Nat.reduceLeDiff, Nat.reduceEqDiff, Nat.reduceSub, Nat.reduceMul, reduceCtorEq, quo64, rem64, q1, q2, encWs_get bs hk, q3]
  refine accL (by kernel_rfl) ?_
  simp -implicitDefEqProofs (maxSteps := 2000000) (disch := omega) only [↓reduceIte, go_sem, Int.reduceToNat, Nat.reduceAdd, Nat.reduceLeDiff, Nat.reduceEqDiff, Nat.reduceSub, Nat.reduceMul, reduceCtorEq]
  have e2 : dropS bs (m : Int) = bs.set m false := by simp [dropS, hin]
  rw [e2]
  refine ⟨rfl, ?_⟩
  rw [← q4]
  rfl
theorem C88 (bs : List Bool) (hl : bs.length < 1000000000) : Ctr Tryd.prog 88 [.sl (encWs bs)] [] (retO [.hs 0 1 0 (nw bs.length)] [.arr 1 1 (encWs bs)]) := by
 have hel := encWs_len bs
 have hnw : nw bs.length < 1000000000 := by unfold nw; omega
 have hall : ∀ c ∈ encWs bs, c.length = 1 := by
  intro c hc
  unfold encWs at hc
  have ⟨w, _, e⟩ := List.mem_map.1 hc
  rw [← e]
  rfl
 have hh : (∀ c ∈ encWs bs, c.length = 1) = True := eq_true hall
 generalize encWs bs = ws at hel hh ⊢
 generalize nw bs.length = m at hel hnw ⊢
 apply ctr_b A88_ok rfl (Nat.le_of_ble_eq_true rfl)
 unfold A88
 simp only [initL, Nat.reduceAdd]
 have hnil : ws = [] → m = 0 := fun e => by rw [← hel, e]; rfl
 have htk : ws.take m = ws := List.take_of_length_le (by omega)
 simp -implicitDefEqProofs (maxSteps := 2000000) (disch := omega) only [↓reduceIte, go_sem, Int.reduceToNat, Nat.reduceAdd, Nat.reduceLeDiff, Nat.reduceEqDiff, Nat.reduceSub, Nat.reduceMul, reduceCtorEq, hh, hel]
 cases hw : ws with
 | nil =>
  have hm := hnil hw
  rw [hm]
  simp -implicitDefEqProofs (maxSteps := 2000000) (disch := omega) only [↓reduceIte, go_sem, Int.reduceToNat, Nat.reduceAdd, Nat.reduceLeDiff, Nat.reduceEqDiff, Nat.reduceSub, Nat.reduceMul, reduceCtorEq]
  exact ⟨rfl, rfl⟩
 | cons c r =>
  rw [hw] at hh hel
  simp only [List.length_cons] at hel
  simp only [List.mem_cons, forall_eq_or_imp] at hh
  simp -implicitDefEqProofs (maxSteps := 2000000) (disch := omega) only [↓reduceIte, go_sem, Int.reduceToNat, Nat.reduceAdd, Nat.reduceLeDiff, Nat.reduceEqDiff, Nat.reduceSub, Nat.reduceMul, reduceCtorEq, hh, hel]
  exact ⟨rfl, rfl⟩
theorem copyC (bs : List Bool) (hl : bs.length < 1000000000) : Ctr Tryd.prog 54 [setP bs] [] (retO [.ref 0 0] (setV 1 bs)) := by
 have hc := C88 bs hl
 unfold setP setV
 generalize encWs bs = ws at hc ⊢
 generalize nw bs.length = m at hc ⊢
 apply ctr_b A54_ok rfl (Nat.le_of_ble_eq_true rfl)
 unfold A54
 simp only [initL, Nat.reduceAdd]
 simp -implicitDefEqProofs (maxSteps := 2000000) (disch := omega) only [↓reduceIte, go_sem, Int.reduceToNat, Nat.reduceAdd, Nat.reduceLeDiff, Nat.reduceEqDiff, Nat.reduceSub, Nat.reduceMul, reduceCtorEq]
 refine callD hc ?_
 simp -implicitDefEqProofs (maxSteps := 2000000) (disch := omega) only [↓reduceIte, go_sem, Int.reduceToNat, Nat.reduceAdd, Nat.reduceLeDiff, Nat.reduceEqDiff, Nat.reduceSub, Nat.reduceMul, reduceCtorEq]
 refine accL (by kernel_rfl) ?_
 simp -implicitDefEqProofs (maxSteps := 2000000) (disch := omega) only [↓reduceIte, go_sem, Int.reduceToNat, Nat.reduceAdd, Nat.reduceLeDiff, Nat.reduceEqDiff, Nat.reduceSub, Nat.reduceMul, reduceCtorEq]
 exact ⟨rfl, rfl⟩
/- Live, out of one instruction, one block: place, ahead, upTo. -/
def placeL (u : List Int) (x : Int) : Int := if foundI u x = true then (lbI u x : Int) else -1
def encSet (s : List Bool) : List AV := [setP s]
/-- What live.New gives. -/
def lvP (f : Fnc) (u : List Int) (ins outs : List (List Bool)) : AV := .rp [.bool f.machine, .str f.name, .sl (f.regs.map encRg), .sl (f.params.map encO), .sl (f.blocks.map encBk), ptP f.blocks, .sl (u.map encN), .sl (ins.map encSet), .sl (outs.map encSet)]
theorem C40 (f : Fnc) (u : List Int) (ins outs : List (List Bool)) (x : Int) (hs : Srt u) (hl : u.length < 1000000) : Ctr Tryd.prog 40 [lvP f u ins outs, .int .i64 x] [] (ret [.int .i64 (placeL u x)]) := by
 have hb := C65 u x hs hl
 apply ctr_b A40_ok rfl (Nat.le_of_ble_eq_true rfl)
 unfold A40 lvP placeL
 simp only [initL, Nat.reduceAdd]
 simp -implicitDefEqProofs (maxSteps := 2000000) (disch := omega) only [↓reduceIte, go_sem, Int.reduceToNat, Nat.reduceAdd, Nat.reduceLeDiff, Nat.reduceEqDiff, Nat.reduceSub, Nat.reduceMul, reduceCtorEq]
 refine callL hb ?_
 generalize foundI u x = z
 simp -implicitDefEqProofs (maxSteps := 2000000) (disch := omega) only [↓reduceIte, go_sem, Int.reduceToNat, Nat.reduceAdd, Nat.reduceLeDiff, Nat.reduceEqDiff, Nat.reduceSub, Nat.reduceMul, reduceCtorEq]
 refine ifB (fun c => ?_) (fun c => ?_)
 ·simp -implicitDefEqProofs (maxSteps := 2000000) (disch := omega) only [↓reduceIte, go_sem, Int.reduceToNat, Nat.reduceAdd, Nat.reduceLeDiff, Nat.reduceEqDiff, Nat.reduceSub, Nat.reduceMul, reduceCtorEq]
  exact ⟨by rw [if_pos (by simpa using c)], rfl⟩
 ·simp -implicitDefEqProofs (maxSteps := 2000000) (disch := omega) only [↓reduceIte, go_sem, Int.reduceToNat, Nat.reduceAdd, Nat.reduceLeDiff, Nat.reduceEqDiff, Nat.reduceSub, Nat.reduceMul, reduceCtorEq]
  exact ⟨by rw [if_neg (by simpa using c)], rfl⟩
def argS (u : List Int) (s : List Bool) (a : Opd) : List Bool := if a.kind = 1 then addS s (placeL u a.n) else s
def dstS (u : List Int) (x : Ins) (s : List Bool) : List Bool := if x.dst.kind = 1 then dropS s (placeL u x.dst.n) else s
def aheadS (u : List Int) (x : Ins) (s : List Bool) : List Bool := x.args.foldl (argS u) (dstS u x s)
theorem argS_len {u : List Int} {s : List Bool} {a : Opd} : (argS u s a).length = s.length := by unfold argS; split <;> simp [addS_len]
theorem dstS_len {u : List Int} {s : List Bool} {x : Ins} : (dstS u x s).length = s.length := by unfold dstS; split <;> simp [dropS_len]
theorem args_len {u : List Int} {s : List Bool} {l : List Opd} : (l.foldl (argS u) s).length = s.length := by
 induction l generalizing s with
 | nil => rfl
 | cons a l ih => rw [List.foldl_cons, ih, argS_len]
theorem aheadS_len {u : List Int} {s : List Bool} {x : Ins} : (aheadS u x s).length = s.length := by rw [aheadS, args_len, dstS_len]
def setN (v n : Nat) (bs : List Bool) : List Ob := [.box [.int .i64 (n : Int), .hs 1 v 0 (nw n)], .arr v 1 (encWs bs)]
theorem setV_eq {v n : Nat} {bs : List Bool} (h : bs.length = n) : setV v bs = setN v n bs := by rw [setV, setN, h]
theorem addVN {v n : Nat} {bs : List Bool} {i : Int} (h : bs.length = n) (hl : n < 1000000000) : Ctr Tryd.prog 60 [.ref 0 0, .int .i64 i] (setN v n bs) (retO [.bool (addR bs i)] (setN v n (addS bs i))) := by
 have := addV v bs i (by omega)
 rwa [setV_eq h, setV_eq (n := n) (by rw [addS_len]; exact h)] at this
theorem dropVN {v n : Nat} {bs : List Bool} {i : Int} (h : bs.length = n) (hl : n < 1000000000) : Ctr Tryd.prog 39 [.ref 0 0, .int .i64 i] (setN v n bs) (retO [.bool (hasB bs i)] (setN v n (dropS bs i))) := by
 have := dropV v bs i (by omega)
 rwa [setV_eq h, setV_eq (n := n) (by rw [dropS_len]; exact h)] at this
theorem C57 (f : Fnc) (u : List Int) (ins outs : List (List Bool)) (v n : Nat) (x : Ins) (s : List Bool) (hs : Srt u) (hl : u.length < 1000000) (hn : s.length = n) (hm : n < 1000000000) (ha : x.args.length ≤ 9223372036854775807) :
  Ctr Tryd.prog 57 [lvP f u ins outs, .ref 0 0, .agg (encIn x)] (setN v n s) (retO [] (setN v n (aheadS u x s))) := by
 have hp := fun y => C40 f u ins outs y hs hl
 have hdn : (dstS u x s).length = n := by rw [dstS_len, hn]
 have hdr := dropVN (v := v) (i := placeL u x.dst.n) hn hm
 have hd1 : x.dst.kind = 1 → dropS s (placeL u x.dst.n) = dstS u x s := fun e => by rw [dstS, if_pos e]
 have hd2 : ¬ x.dst.kind = 1 → s = dstS u x s := fun e => by rw [dstS, if_neg e]
 apply ctr_b A57_ok rfl (Nat.le_of_ble_eq_true rfl)
 unfold A57 aheadS setN
 unfold setN at hdr
 have ⟨L, eL⟩ : ∃ L, lvP f u ins outs = .rp L := ⟨_, rfl⟩
 rw [eL] at hp ⊢
 simp only [initL, Nat.reduceAdd]
 generalize dstS u x s = t at hd1 hd2 hdn ⊢
 have htl : ∀ k, ((x.args.take k).foldl (argS u) t).length = n := fun k => by rw [args_len, hdn]
 have hnx : ∀ k a, x.args[k]? = some a → (x.args.take (k + 1)).foldl (argS u) t = argS u ((x.args.take k).foldl (argS u) t) a := fun k a h => by
  rw [List.take_add_one, h, Option.toList_some, List.foldl_append]
  rfl
 simp -implicitDefEqProofs (maxSteps := 2000000) (disch := omega) only [↓reduceIte, go_sem, Int.reduceToNat, Nat.reduceAdd, Nat.reduceLeDiff, Nat.reduceEqDiff, Nat.reduceSub, Nat.reduceMul, reduceCtorEq, encIn]
 refine ifE (fun e => ?_) (fun e => ?_)
 ·rw [hd1 e] at hdr
  simp -implicitDefEqProofs (maxSteps := 2000000) (disch := omega) only [↓reduceIte, go_sem, Int.reduceToNat, Nat.reduceAdd, Nat.reduceLeDiff, Nat.reduceEqDiff, Nat.reduceSub, Nat.reduceMul, reduceCtorEq]
  refine callL (hp x.dst.n) ?_
  simp -implicitDefEqProofs (maxSteps := 2000000) (disch := omega) only [↓reduceIte, go_sem, Int.reduceToNat, Nat.reduceAdd, Nat.reduceLeDiff, Nat.reduceEqDiff, Nat.reduceSub, Nat.reduceMul, reduceCtorEq]
  refine callD hdr ?_
  simp -implicitDefEqProofs (maxSteps := 2000000) (disch := omega) only [↓reduceIte, go_sem, Int.reduceToNat, Nat.reduceAdd, Nat.reduceLeDiff, Nat.reduceEqDiff, Nat.reduceSub, Nat.reduceMul, reduceCtorEq]
  refine loopL (σ := Nat) (fun k => ⟨[(0, .rp L), (1, .ref 0 0), (20, .sl (x.args.map encO)), (21, .int .i64 (x.args.length : Int)), (22, .int .i64 (k : Int))], [(0, .box [.int .i64 (n : Int), .hs 1 v 0 (nw n)]), (1, .arr v 1 (encWs ((x.args.take k).foldl (argS u) t)))]⟩)
   (fun k => k ≤ x.args.length) (fun k => x.args.length - k) 0 (by simp -implicitDefEqProofs (maxSteps := 2000000) (disch := omega) only [↓reduceIte, go_sem, Int.reduceToNat, Nat.reduceAdd, Nat.reduceLeDiff, Nat.reduceEqDiff, Nat.reduceSub, Nat.reduceMul, reduceCtorEq]; rfl) (Nat.zero_le _) ?_
  intro k hk
  simp -implicitDefEqProofs (maxSteps := 2000000) (disch := omega) only [↓reduceIte, go_sem, Int.reduceToNat, Nat.reduceAdd, Nat.reduceLeDiff, Nat.reduceEqDiff, Nat.reduceSub, Nat.reduceMul, reduceCtorEq]
  refine ifD (fun c => ?_) (fun c => ?_)
  ·have hx := List.getElem?_eq_getElem (l := x.args) (i := k) (by omega)
   generalize x.args[k] = a at hx
   have hlk := htl k
   have hn2 := hnx k a hx
   generalize (x.args.take k).foldl (argS u) t = q at hlk hn2 ⊢
   have had := addVN (v := v) (i := placeL u a.n) hlk hm
   have g4 : IntKind.i64.wrap ((k : Int) + 1) = ((k + 1 : Nat) : Int) := by rw [← wrapI (m := k + 1) (by omega)]; congr 1
   unfold setN at had
   simp -implicitDefEqProofs (maxSteps := 2000000) (disch := omega) only [↓reduceIte, go_sem, Int.reduceToNat, Nat.reduceAdd, Nat.reduceLeDiff, Nat.reduceEqDiff, Nat.reduceSub, Nat.reduceMul, reduceCtorEq, hx, encO]
   refine ifE (fun e2 => ?_) (fun e2 => ?_)
   ·simp -implicitDefEqProofs (maxSteps := 2000000) (disch := omega) only [↓reduceIte, go_sem, Int.reduceToNat, Nat.reduceAdd, Nat.reduceLeDiff, Nat.reduceEqDiff, Nat.reduceSub, Nat.reduceMul, reduceCtorEq]
    refine callL (hp a.n) ?_
    simp -implicitDefEqProofs (maxSteps := 2000000) (disch := omega) only [↓reduceIte, go_sem, Int.reduceToNat, Nat.reduceAdd, Nat.reduceLeDiff, Nat.reduceEqDiff, Nat.reduceSub, Nat.reduceMul, reduceCtorEq]
    refine callD had ?_
    simp -implicitDefEqProofs (maxSteps := 2000000) (disch := omega) only [↓reduceIte, go_sem, Int.reduceToNat, Nat.reduceAdd, Nat.reduceLeDiff, Nat.reduceEqDiff, Nat.reduceSub, Nat.reduceMul, reduceCtorEq, g4]
    exact ⟨k + 1, by rw [hn2, argS, if_pos e2], by omega, by omega⟩
   ·simp -implicitDefEqProofs (maxSteps := 2000000) (disch := omega) only [↓reduceIte, go_sem, Int.reduceToNat, Nat.reduceAdd, Nat.reduceLeDiff, Nat.reduceEqDiff, Nat.reduceSub, Nat.reduceMul, reduceCtorEq, g4]
    exact ⟨k + 1, by rw [hn2, argS, if_neg e2], by omega, by omega⟩
  ·simp -implicitDefEqProofs (maxSteps := 2000000) (disch := omega) only [↓reduceIte, go_sem, Int.reduceToNat, Nat.reduceAdd, Nat.reduceLeDiff, Nat.reduceEqDiff, Nat.reduceSub, Nat.reduceMul, reduceCtorEq]
   rw [show k = x.args.length by omega, List.take_length]
   exact ⟨rfl, rfl⟩
 ·rw [hd2 e]
  simp -implicitDefEqProofs (maxSteps := 2000000) (disch := omega) only [↓reduceIte, go_sem, Int.reduceToNat, Nat.reduceAdd, Nat.reduceLeDiff, Nat.reduceEqDiff, Nat.reduceSub, Nat.reduceMul, reduceCtorEq]
  refine loopL (σ := Nat) (fun k => ⟨[(0, .rp L), (1, .ref 0 0), (20, .sl (x.args.map encO)), (21, .int .i64 (x.args.length : Int)), (22, .int .i64 (k : Int))], [(0, .box [.int .i64 (n : Int), .hs 1 v 0 (nw n)]), (1, .arr v 1 (encWs ((x.args.take k).foldl (argS u) t)))]⟩)
   (fun k => k ≤ x.args.length) (fun k => x.args.length - k) 0 (by simp -implicitDefEqProofs (maxSteps := 2000000) (disch := omega) only [↓reduceIte, go_sem, Int.reduceToNat, Nat.reduceAdd, Nat.reduceLeDiff, Nat.reduceEqDiff, Nat.reduceSub, Nat.reduceMul, reduceCtorEq]; rfl) (Nat.zero_le _) ?_
  intro k hk
  simp -implicitDefEqProofs (maxSteps := 2000000) (disch := omega) only [↓reduceIte, go_sem, Int.reduceToNat, Nat.reduceAdd, Nat.reduceLeDiff, Nat.reduceEqDiff, Nat.reduceSub, Nat.reduceMul, reduceCtorEq]
  refine ifD (fun c => ?_) (fun c => ?_)
  ·have hx := List.getElem?_eq_getElem (l := x.args) (i := k) (by omega)
   generalize x.args[k] = a at hx
   have hlk := htl k
   have hn2 := hnx k a hx
   generalize (x.args.take k).foldl (argS u) t = q at hlk hn2 ⊢
   have had := addVN (v := v) (i := placeL u a.n) hlk hm
   have g4 : IntKind.i64.wrap ((k : Int) + 1) = ((k + 1 : Nat) : Int) := by rw [← wrapI (m := k + 1) (by omega)]; congr 1
   unfold setN at had
   simp -implicitDefEqProofs (maxSteps := 2000000) (disch := omega) only [↓reduceIte, go_sem, Int.reduceToNat, Nat.reduceAdd, Nat.reduceLeDiff, Nat.reduceEqDiff, Nat.reduceSub, Nat.reduceMul, reduceCtorEq, hx, encO]
   refine ifE (fun e2 => ?_) (fun e2 => ?_)
   ·simp -implicitDefEqProofs (maxSteps := 2000000) (disch := omega) only [↓reduceIte, go_sem, Int.reduceToNat, Nat.reduceAdd, Nat.reduceLeDiff, Nat.reduceEqDiff, Nat.reduceSub, Nat.reduceMul, reduceCtorEq]
    refine callL (hp a.n) ?_
    simp -implicitDefEqProofs (maxSteps := 2000000) (disch := omega) only [↓reduceIte, go_sem, Int.reduceToNat, Nat.reduceAdd, Nat.reduceLeDiff, Nat.reduceEqDiff, Nat.reduceSub, Nat.reduceMul, reduceCtorEq]
    refine callD had ?_
    simp -implicitDefEqProofs (maxSteps := 2000000) (disch := omega) only [↓reduceIte, go_sem, Int.reduceToNat, Nat.reduceAdd, Nat.reduceLeDiff, Nat.reduceEqDiff, Nat.reduceSub, Nat.reduceMul, reduceCtorEq, g4]
    exact ⟨k + 1, by rw [hn2, argS, if_pos e2], by omega, by omega⟩
   ·simp -implicitDefEqProofs (maxSteps := 2000000) (disch := omega) only [↓reduceIte, go_sem, Int.reduceToNat, Nat.reduceAdd, Nat.reduceLeDiff, Nat.reduceEqDiff, Nat.reduceSub, Nat.reduceMul, reduceCtorEq, g4]
    exact ⟨k + 1, by rw [hn2, argS, if_neg e2], by omega, by omega⟩
  ·simp -implicitDefEqProofs (maxSteps := 2000000) (disch := omega) only [↓reduceIte, go_sem, Int.reduceToNat, Nat.reduceAdd, Nat.reduceLeDiff, Nat.reduceEqDiff, Nat.reduceSub, Nat.reduceMul, reduceCtorEq]
   rw [show k = x.args.length by omega, List.take_length]
   exact ⟨rfl, rfl⟩
def setC (v n : Nat) (bs : List Bool) : List Ob := [.box [.ref 1 0], .box [.int .i64 (n : Int), .hs 2 v 0 (nw n)], .arr v 1 (encWs bs)]
theorem C56 (f : Fnc) (u : List Int) (ins outs : List (List Bool)) (v n : Nat) (i : Int) (x : Ins) (s : List Bool) (hs : Srt u) (hl : u.length < 1000000) (hn : s.length = n) (hm : n < 1000000000) (ha : x.args.length ≤ 9223372036854775807) :
  Ctr Tryd.prog 56 [.int .i64 i, .agg (encIn x), .rp [lvP f u ins outs], .ref 0 0] (setC v n s) (retO [] (setC v n (aheadS u x s))) := by
 have hp := C57 f u ins outs v n x s hs hl hn hm ha
 apply ctr_b A56_ok rfl (Nat.le_of_ble_eq_true rfl)
 unfold A56 setC
 unfold setN at hp
 have ⟨L, eL⟩ : ∃ L, lvP f u ins outs = .rp L := ⟨_, rfl⟩
 rw [eL] at hp ⊢
 generalize aheadS u x s = q at hp ⊢
 simp only [initL, Nat.reduceAdd]
 simp -implicitDefEqProofs (maxSteps := 2000000) (disch := omega) only [↓reduceIte, go_sem, Int.reduceToNat, Nat.reduceAdd, Nat.reduceLeDiff, Nat.reduceEqDiff, Nat.reduceSub, Nat.reduceMul, reduceCtorEq, encIn]
 unfold encIn at hp
 refine callD hp ?_
 simp -implicitDefEqProofs (maxSteps := 2000000) (disch := omega) only [↓reduceIte, go_sem, Int.reduceToNat, Nat.reduceAdd, Nat.reduceLeDiff, Nat.reduceEqDiff, Nat.reduceSub, Nat.reduceMul, reduceCtorEq]
 exact ⟨rfl, rfl⟩
def backS (u : List Int) (l : List Ins) (s : List Bool) : List Bool := l.foldr (aheadS u) s
theorem backS_len {u : List Int} {l : List Ins} {s : List Bool} : (backS u l s).length = s.length := by
 induction l with
 | nil => rfl
 | cons a l ih => rw [backS, List.foldr_cons, aheadS_len]; exact ih
theorem backS_drop {u : List Int} {l : List Ins} {s : List Bool} {k : Nat} {x : Ins} (h : l[k]? = some x) : backS u (l.drop k) s = aheadS u x (backS u (l.drop (k + 1)) s) := by
 have ⟨hk, e⟩ := List.getElem?_eq_some_iff.1 h
 rw [List.drop_eq_getElem_cons hk, e]
 rfl
theorem C55 (f : Fnc) (u : List Int) (ins outs : List (List Bool)) (v n : Nat) (l : List Ins) (s : List Bool) (hs : Srt u) (hl : u.length < 1000000) (hn : s.length = n) (hm : n < 1000000000) (ha : ∀ x ∈ l, x.args.length ≤ 9223372036854775807) (hll : l.length < 1000000) :
  Ctr Tryd.prog 55 [.sl (l.map encIn), .fn 56 [.rp [lvP f u ins outs], .ref 0 0]] (setC v n s) (retO [] (setC v n (backS u l s))) := by
 have hp := fun i x t (h : t.length = n) (hx : x ∈ l) => C56 f u ins outs v n i x t hs hl h hm (ha x hx)
 apply ctr_b A55_ok rfl (Nat.le_of_ble_eq_true rfl)
 unfold A55 setC
 unfold setC at hp
 have ⟨L, eL⟩ : ∃ L, lvP f u ins outs = .rp L := ⟨_, rfl⟩
 rw [eL] at hp ⊢
 simp only [initL, Nat.reduceAdd]
 simp -implicitDefEqProofs (maxSteps := 2000000) (disch := omega) only [↓reduceIte, go_sem, Int.reduceToNat, Nat.reduceAdd, Nat.reduceLeDiff, Nat.reduceEqDiff, Nat.reduceSub, Nat.reduceMul, reduceCtorEq]
 refine loopL (σ := Nat) (fun k => ⟨[(0, .sl (l.map encIn)), (1, .fn 56 [.rp [.rp L], .ref 0 0]), (4, .int .i64 ((k : Int) - 1))], [(0, .box [.ref 1 0]), (1, .box [.int .i64 (n : Int), .hs 2 v 0 (nw n)]), (2, .arr v 1 (encWs (backS u (l.drop k) s)))]⟩)
  (fun k => k ≤ l.length) (fun k => k) l.length (by simp -implicitDefEqProofs (maxSteps := 2000000) (disch := omega) only [↓reduceIte, go_sem, Int.reduceToNat, Nat.reduceAdd, Nat.reduceLeDiff, Nat.reduceEqDiff, Nat.reduceSub, Nat.reduceMul, reduceCtorEq]; rw [List.drop_length]; rfl) (Nat.le_refl _) ?_
 intro k hk
 simp -implicitDefEqProofs (maxSteps := 2000000) (disch := omega) only [↓reduceIte, go_sem, Int.reduceToNat, Nat.reduceAdd, Nat.reduceLeDiff, Nat.reduceEqDiff, Nat.reduceSub, Nat.reduceMul, reduceCtorEq]
 refine ifD (fun c => ?_) (fun c => ?_)
 ·have ⟨j, ej⟩ : ∃ j, k = j + 1 := ⟨k - 1, by omega⟩
  have hx := List.getElem?_eq_getElem (l := l) (i := j) (by omega)
  have hmem := List.mem_of_getElem? hx
  have hdr := backS_drop (u := u) (s := s) hx
  generalize l[j] = x at hx hmem hdr
  have hlt : (backS u (l.drop (j + 1)) s).length = n := by rw [backS_len, hn]
  have i1 : (k : Int) - 1 = (j : Int) := by omega
  have i2 : IntKind.i64.wrap ((j : Int) - 1) = (j : Int) - 1 := wrap64 (by omega) (by omega)
  rw [i1, ej]
  generalize backS u (l.drop (j + 1)) s = q at hdr hlt ⊢
  have hc := hp (j : Int) x q hlt hmem
  simp -implicitDefEqProofs (maxSteps := 2000000) (disch := omega) only [↓reduceIte, go_sem, Int.reduceToNat, Nat.reduceAdd, Nat.reduceLeDiff, Nat.reduceEqDiff, Nat.reduceSub, Nat.reduceMul, reduceCtorEq, hx, encIn]
  unfold encIn at hc
  refine callD hc ?_
  simp -implicitDefEqProofs (maxSteps := 2000000) (disch := omega) only [↓reduceIte, go_sem, Int.reduceToNat, Nat.reduceAdd, Nat.reduceLeDiff, Nat.reduceEqDiff, Nat.reduceSub, Nat.reduceMul, reduceCtorEq, i2]
  exact ⟨j, by rw [hdr], by omega, by omega⟩
 ·rw [show k = 0 by omega]
  simp -implicitDefEqProofs (maxSteps := 2000000) (disch := omega) only [↓reduceIte, go_sem, Int.reduceToNat, Nat.reduceAdd, Nat.reduceLeDiff, Nat.reduceEqDiff, Nat.reduceSub, Nat.reduceMul, reduceCtorEq]
  exact ⟨rfl, rfl⟩
theorem C29 (f : Fnc) (u : List Int) (ins outs : List (List Bool)) (n b i : Nat) (B : Blk) (s : List Bool) (hs : Srt u) (hl : u.length < 1000000) (hn : s.length = n) (hm : n < 1000000000)
  (hB : f.blocks[b]? = some B) (ho : outs[b]? = some s) (hi : i ≤ B.code.length) (ha : ∀ x ∈ B.code, x.args.length ≤ 9223372036854775807) (hll : B.code.length < 1000000) :
  Ctr Tryd.prog 29 [lvP f u ins outs, .int .i64 (b : Int), .int .i64 (i : Int)] [] (retO [.ref 0 0] (setN 1 n (backS u (B.code.drop i) s))) := by
 have hp := C55 f u ins outs 1 n (B.code.drop i) s hs hl hn hm (fun x hx => ha x (List.mem_of_mem_drop hx)) (by rw [List.length_drop]; omega)
 have hcp := copyC s (by omega)
 apply ctr_b A29_ok rfl (Nat.le_of_ble_eq_true rfl)
 unfold A29 setN
 unfold setC at hp
 rw [setV_eq hn] at hcp
 unfold setN at hcp
 generalize backS u (B.code.drop i) s = q at hp ⊢
 rw [List.map_drop] at hp
 unfold lvP at hp ⊢
 unfold setP at hcp
 simp only [initL, Nat.reduceAdd]
 simp -implicitDefEqProofs (maxSteps := 2000000) (disch := omega) only [↓reduceIte, go_sem, Int.reduceToNat, Nat.reduceAdd, Nat.reduceLeDiff, Nat.reduceEqDiff, Nat.reduceSub, Nat.reduceMul, reduceCtorEq, ho, encSet, setP]
 refine callD hcp ?_
 have hall : (∀ c ∈ B.code.map encIn, c.length = 10) = True := by simp [encIn]
 have htk : (B.code.map encIn).take B.code.length = B.code.map encIn := List.take_of_length_le (by simp)
 have hii : ((i : Int) ≤ (B.code.length : Int)) = True := by simp; omega
 simp -implicitDefEqProofs (maxSteps := 2000000) (disch := omega) only [↓reduceIte, go_sem, Int.reduceToNat, Nat.reduceAdd, Nat.reduceLeDiff, Nat.reduceEqDiff, Nat.reduceSub, Nat.reduceMul, reduceCtorEq, hB, encBk, hall, htk, hii]
 refine callD hp ?_
 simp -implicitDefEqProofs (maxSteps := 2000000) (disch := omega) only [↓reduceIte, go_sem, Int.reduceToNat, Nat.reduceAdd, Nat.reduceLeDiff, Nat.reduceEqDiff, Nat.reduceSub, Nat.reduceMul, reduceCtorEq]
 exact ⟨rfl, rfl⟩
end Go.Proofs.YtgbmneoeggdaoaaDoor.X
