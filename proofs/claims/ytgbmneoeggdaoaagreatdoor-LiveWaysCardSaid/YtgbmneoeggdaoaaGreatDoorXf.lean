/- A search in a sorted list. -/
import Derived.Test.YtgbmneoeggdaoaaGreatDoorXe
import Derived.Test.YtgbmneoeggdaoaaGreatDoorXb
import Derived.Test.YtgbmneoeggdaoaaGreatDoorXc
import Derived.Test.YtgbmneoeggdaoaaGreatDoorXaso
import Derived.Shelf.Sort.Plain
namespace Go.Proofs.YtgbmneoeggdaoaaGreatDoor.X
open Go Go.AM Go.Proofs
open Nat (reduceAdd reduceLeDiff reduceEqDiff reduceSub reduceMul)
open Int (reduceToNat)
attribute [local go_sem ↓] w_skip w_lbl w_ops w_draw w_pre w_post w_alt w_seq w_cond w_block w_join w_loop w_exit w_ret w_scope w_rfunc l_nil l_cons th_n th_e th_r bk_n bk_r bk_e t_nil t_it t_call t_callg i_nil i_one i_grp s_nil s_cons c_call c_callg e_rar e_dynB e_mv e_nil e_dyn e_nilb e_frz o_mov o_bin o_eq o_un o_conv o_len o_slen o_idx o_aix o_fad o_load o_store o_boxp o_boxo o_boxm o_alloc o_allocm o_alloca o_nilarr o_build o_bslp o_bslo o_slc o_sslc o_slc3 o_sidx o_mkfn o_mkmv o_calle o_bslr o_ridx o_rload o_rapp o_vidx o_ext o_pick o_callf o_callb o_appd o_clear o_mxn o_field o_nilc o_make o_makeb o_buildm o_boxg o_mkif o_tass o_eqs o_callo o_callx k_int k_str k_bool k_grb k_grt k_some k_none k_rar k_arr k_lens k_lenf k_lenh k_lenb k_idxb k_idxs k_idxf k_idxh k_ld k_loadp k_loadr k_loade k_storer k_storee k_oin k_ois k_slcs k_slcf k_slch k_slc3s k_slc3f k_slc3h k_app2 k_apps k_appf k_apph k_cals k_cald k_cali k_cnb k_cna k_esn k_esc k_efn k_efc k_esh b_add b_sub b_mul b_quo b_rem b_and b_or b_xor b_andNot b_eql b_neq b_lss b_leq b_gtr b_geq b_shl b_shr b_seq b_sne b_slt b_sad q_bool q_str q_nil q_nilf u_not u_neg u_xor f_ret f_nor v_r v_c v_g v_reg v_ob v_set v_put v_so v_sn v_pn v_pc g_nil d_nil p_nil m_mv m_fr z_nil z_cons z_an z_ac g_cons d_cons p_cons y_mov y_bin y_eq y_un y_conv y_len y_slen y_idx y_aix y_fad y_load y_store y_boxp y_boxo y_boxm y_alloc y_alloca y_allocm y_nilarr y_build y_bslp y_bslo y_slc y_sslc y_slc3 y_sidx y_mkfn y_ext y_pick y_callf y_callb y_appd y_clear y_mxn y_field y_nilc y_make y_makeb y_buildm y_boxg y_mkif y_tass y_eqs y_callo y_mkmv y_callx y_vidx y_bslr y_ridx y_rload y_rapp y_calle nb_if
attribute [local go_sem] nbd VL_mk VL2_mk If_t If_f If_not If_and If_or If_dt If_df If_et If_ef If_ne Ck_t Ck_h Opt_s ld_a ld_c lm_a lm_c renL ren keepR renA idxM invL getObs mapOb renOb allNone putAll fzR fzO fz fzL fzOb fzB frzOk upFrom mapR resOne resA cellsOf oneA oneAL isP isPL okSt kRows kParts fillA setAt bor bor0 bor1 bor2 borC borI key0 key1 key2 keysA fillM cellsM cellM unif ptrA ifOk kPartsM getObsM allNoneM zipU scal0 scalar eqC evNil evNilF memK keyX hideM xbor scal1 scalX scalOb bndA mkMag showM lendV hideV hideR hideOb hideL hideO showL backO noneO mapA List.map_cons List.map_nil List.cons_append List.nil_append List.append_nil List.drop_zero List.drop_succ_cons List.drop_nil List.take_succ_cons List.take_zero List.take_nil List.length_cons List.length_nil List.length_map List.getElem?_map Option.map_some Option.map_none Int.toNat_natCast Int.toNat_zero Int.toNat_one Int.natCast_nonneg List.flatMap_cons List.flatMap_nil List.all_cons List.all_nil List.any_cons List.any_nil Bool.or_false Bool.false_or Bool.or_true Bool.true_or Bool.and_true Bool.true_and Bool.and_false Bool.false_and Bool.not_true Bool.not_false beq_self_eq_true nb_self all_nil List.forall_mem_cons tk_map tk_app bs_self bs_dec bq_t bq_f Bool.not_not decide_true decide_false Bool.not_not and_self and_true true_and eq_self List.reverse_cons List.reverse_nil List.getElem?_cons_zero List.getElem?_cons_succ cond_true cond_false List.set_cons_zero List.set_cons_succ Nat.zero_add Nat.add_zero if_true if_false ite_true ite_false implies_true wrap64 wrap8
open Go.Bits
set_option linter.unusedVariables false
set_option linter.unusedSimpArgs false
set_option maxRecDepth 10000
def Srt (u : List Int) : Prop := ∀ i j, i < j → j < u.length → u.getD i 0 ≤ u.getD j 0
/-- How many stand ahead of a number. -/
def lbI (u : List Int) (x : Int) : Nat := (u.filter fun y => decide (y < x)).length
theorem lbI_eq : ∀ {u : List Int} {x : Int} {k : Nat}, k ≤ u.length → (∀ i, i < k → u.getD i 0 < x) → (∀ i, k ≤ i → i < u.length → x ≤ u.getD i 0) → lbI u x = k
 | [], x, k, hk, _, _ => by simp at hk; simp [lbI, hk]
 | y :: u, x, k, hk, h1, h2 => by
  cases k with
  | zero =>
   have hy := h2 0 (Nat.le_refl _) (by simp)
   simp at hy
   have ih := lbI_eq (u := u) (x := x) (k := 0) (Nat.zero_le _) (fun i hi => by omega) fun i _ hl => by
    have := h2 (i + 1) (Nat.zero_le _) (by simp; omega)
    simpa using this
   unfold lbI at ih ⊢
   rw [List.filter_cons, if_neg (by simp; omega)]
   exact ih
  | succ k =>
   have hy := h1 0 (by omega)
   simp at hy
   have ih := lbI_eq (u := u) (x := x) (k := k) (by simpa using hk) (fun i hi => by
    have := h1 (i + 1) (by omega)
    simpa using this) fun i hi hl => by
    have := h2 (i + 1) (by omega) (by simp; omega)
    simpa using this
   unfold lbI at ih ⊢
   rw [List.filter_cons, if_pos (by simpa using hy), List.length_cons, ih]
theorem getZ {l : List Int} {k : Nat} (h : k < l.length) : l[k]? = some (l.getD k 0) := by simp [List.getD_eq_getElem?_getD, h]
def foundI (u : List Int) (x : Int) : Bool := decide (lbI u x < u.length) && (u.getD (lbI u x) 0 == x)
theorem C101 (x : Int) : Ctr Tryz.prog 101 [.int .i64 x] [] (ret [.bool false]) := by
 apply ctr_b A101_ok rfl (Nat.le_of_ble_eq_true rfl)
 unfold A101
 simp only [initL, Nat.reduceAdd]
 simp -implicitDefEqProofs (disch := omega) only [↓reduceIte, go_sem, reduceToNat, reduceAdd, reduceLeDiff, reduceEqDiff, reduceSub, reduceMul, reduceCtorEq]
 exact ⟨by simp, rfl⟩
theorem C95 (x : Int) : Ctr Tryz.prog 95 [.int .i64 x] [] (ret [.bool false]) := by
 apply ctr_b A95_ok rfl (Nat.le_of_ble_eq_true rfl)
 unfold A95
 simp only [initL, Nat.reduceAdd]
 simp -implicitDefEqProofs (disch := omega) only [↓reduceIte, go_sem, reduceToNat, reduceAdd, reduceLeDiff, reduceEqDiff, reduceSub, reduceMul, reduceCtorEq]
 exact ⟨by simp, rfl⟩
theorem C79 (x y : Int) : Ctr Tryz.prog 79 [.int .i64 x, .int .i64 y] [] (ret [.bool (decide (x < y))]) := by
 apply ctr_b A79_ok rfl (Nat.le_of_ble_eq_true rfl)
 unfold A79
 simp only [initL, Nat.reduceAdd]
 simp -implicitDefEqProofs (disch := omega) only [↓reduceIte, go_sem, reduceToNat, reduceAdd, reduceLeDiff, reduceEqDiff, reduceSub, reduceMul, reduceCtorEq]
 refine callL (C101 x) ?_
 simp -implicitDefEqProofs (disch := omega) only [↓reduceIte, go_sem, reduceToNat, reduceAdd, reduceLeDiff, reduceEqDiff, reduceSub, reduceMul, reduceCtorEq]
 exact ⟨rfl, rfl⟩
theorem C69 (u : List Int) (x : Int) (hs : Srt u) (hl : u.length < 1000000) : Ctr Tryz.prog 69 [.sl (u.map encN), .int .i64 x] [] (ret [.int .i64 (lbI u x : Int), .bool (foundI u x)]) := by
 apply ctr_b A69_ok rfl (Nat.le_of_ble_eq_true rfl)
 unfold A69
 simp only [initL, Nat.reduceAdd]
 simp -implicitDefEqProofs (disch := omega) only [↓reduceIte, go_sem, reduceToNat, reduceAdd, reduceLeDiff, reduceEqDiff, reduceSub, reduceMul, reduceCtorEq]
 refine loopL (σ := Nat × Nat) (fun p => ⟨[(0, .sl (u.map encN)), (1, .int .i64 x), (6, .int .i64 (u.length : Int)), (7, .int .i64 (p.1 : Int)), (8, .int .i64 (p.2 : Int))], []⟩)
  (fun p => p.1 ≤ p.2 ∧ p.2 ≤ u.length ∧ (∀ i, i < p.1 → u.getD i 0 < x) ∧ (∀ i, p.2 ≤ i → i < u.length → x ≤ u.getD i 0)) (fun p => p.2 - p.1) (0, u.length) (by simp -implicitDefEqProofs (disch := omega) only [↓reduceIte, go_sem, reduceToNat, reduceAdd, reduceLeDiff, reduceEqDiff, reduceSub, reduceMul, reduceCtorEq]; rfl) ⟨Nat.zero_le _, Nat.le_refl _, fun i hi => by omega, fun i hi hl => by omega⟩ ?_
 rintro ⟨i, j⟩ ⟨h1, h2, h3, h4⟩
 simp only at h1 h2 h3 h4
 simp -implicitDefEqProofs (disch := omega) only [↓reduceIte, go_sem, reduceToNat, reduceAdd, reduceLeDiff, reduceEqDiff, reduceSub, reduceMul, reduceCtorEq]
 refine ifD (fun c => ?_) (fun c => ?_)
 ·have hm : IntKind.i64.wrap ((IntKind.u64.wrap ((i : Int) + (j : Int))).fdiv (2 ^ min 1 64)) = (((i + j) / 2 : Nat) : Int) := by
   rw [show (i : Int) + (j : Int) = ((i + j : Nat) : Int) by omega, wrapN (by omega), shr_nat (by omega), wrap64 (by omega) (by omega)]
  have hh : (i + j) / 2 < u.length ∧ i ≤ (i + j) / 2 ∧ (i + j) / 2 < j := by omega
  have hg := getZ hh.1
  have hlo : u.getD ((i + j) / 2) 0 < x → ∀ k, k < (i + j) / 2 + 1 → u.getD k 0 < x := fun h k hk => by
   by_cases e : k = (i + j) / 2
   ·rw [e]; exact h
   ·have := hs k ((i + j) / 2) (by omega) hh.1
    omega
  have hhi : x ≤ u.getD ((i + j) / 2) 0 → ∀ k, (i + j) / 2 ≤ k → k < u.length → x ≤ u.getD k 0 := fun h k hk hl => by
   by_cases e : k = (i + j) / 2
   ·rw [e]; exact h
   ·have := hs ((i + j) / 2) k (by omega) hl
    omega
  generalize u.getD ((i + j) / 2) 0 = y at hg hlo hhi
  generalize (i + j) / 2 = m at hm hh hg hlo hhi
  simp -implicitDefEqProofs (disch := omega) only [↓reduceIte, go_sem, reduceToNat, reduceAdd, reduceLeDiff, reduceEqDiff, reduceSub, reduceMul, reduceCtorEq, hm, hg, encN]
  refine callL (C79 y x) ?_
  simp -implicitDefEqProofs (disch := omega) only [↓reduceIte, go_sem, reduceToNat, reduceAdd, reduceLeDiff, reduceEqDiff, reduceSub, reduceMul, reduceCtorEq]
  refine ifD (fun e => ?_) (fun e => ?_)
  ·simp -implicitDefEqProofs (disch := omega) only [↓reduceIte, go_sem, reduceToNat, reduceAdd, reduceLeDiff, reduceEqDiff, reduceSub, reduceMul, reduceCtorEq]
   exact ⟨(m + 1, j), by simp, ⟨by simp only; omega, h2, hlo e, h4⟩, by simp only; omega⟩
  ·simp -implicitDefEqProofs (disch := omega) only [↓reduceIte, go_sem, reduceToNat, reduceAdd, reduceLeDiff, reduceEqDiff, reduceSub, reduceMul, reduceCtorEq]
   exact ⟨(i, m), by simp, ⟨hh.2.1, by simp only; omega, h3, hhi (by omega)⟩, by simp only; omega⟩
 ·have hij : i = j := by omega
  subst hij
  have hlb := lbI_eq h2 h3 h4
  simp -implicitDefEqProofs (disch := omega) only [↓reduceIte, go_sem, reduceToNat, reduceAdd, reduceLeDiff, reduceEqDiff, reduceSub, reduceMul, reduceCtorEq]
  refine ifD (fun e => ?_) (fun e => ?_)
  ·have hg := getZ (l := u) (k := i) (by omega)
   have hf : foundI u x = (u.getD i 0 == x) := by unfold foundI; rw [hlb, decide_eq_true (show i < u.length by omega)]; rfl
   generalize u.getD i 0 = y at hg hf
   simp -implicitDefEqProofs (disch := omega) only [↓reduceIte, go_sem, reduceToNat, reduceAdd, reduceLeDiff, reduceEqDiff, reduceSub, reduceMul, reduceCtorEq, hg, encN]
   refine ifE (fun e2 => ?_) (fun e2 => ?_)
   ·simp -implicitDefEqProofs (disch := omega) only [↓reduceIte, go_sem, reduceToNat, reduceAdd, reduceLeDiff, reduceEqDiff, reduceSub, reduceMul, reduceCtorEq, hg, encN]
    exact ⟨by rw [hf, hlb, e2]; simp, rfl⟩
   ·simp -implicitDefEqProofs (disch := omega) only [↓reduceIte, go_sem, reduceToNat, reduceAdd, reduceLeDiff, reduceEqDiff, reduceSub, reduceMul, reduceCtorEq, hg, encN]
    refine callL (C95 y) ?_
    simp -implicitDefEqProofs (disch := omega) only [↓reduceIte, go_sem, reduceToNat, reduceAdd, reduceLeDiff, reduceEqDiff, reduceSub, reduceMul, reduceCtorEq]
    exact ⟨by rw [hf, hlb]; simp [e2], rfl⟩
  ·have hf : foundI u x = false := by unfold foundI; rw [hlb, decide_eq_false (show ¬ i < u.length by omega)]; rfl
   simp -implicitDefEqProofs (disch := omega) only [↓reduceIte, go_sem, reduceToNat, reduceAdd, reduceLeDiff, reduceEqDiff, reduceSub, reduceMul, reduceCtorEq]
   exact ⟨by rw [hf, hlb], rfl⟩
/- The numbers of a function's instructions: package point. -/
def sumTo (bs : List Blk) (b : Nat) : Nat := ((bs.take b).map fun b => b.code.length).sum
theorem sumTo_succ {bs : List Blk} {b : Nat} {x : Blk} (h : bs[b]? = some x) : sumTo bs (b + 1) = sumTo bs b + x.code.length := by
 unfold sumTo
 rw [snoc_take h]
 simp
theorem sumTo_mono {bs : List Blk} {a b : Nat} (h : a ≤ b) : sumTo bs a ≤ sumTo bs b := by
 induction b with
 | zero => rw [show a = 0 by omega]; exact Nat.le_refl _
 | succ b ih =>
  by_cases e : a = b + 1
  ·rw [e]; exact Nat.le_refl _
  ·have := ih (by omega)
   cases hb : bs[b]? with
   | none =>
    have hl : bs.length ≤ b := by simpa using hb
    unfold sumTo at this ⊢
    rw [List.take_of_length_le hl] at this
    rw [List.take_of_length_le (show bs.length ≤ b + 1 by omega)]
    exact this
   | some x =>
    rw [sumTo_succ hb]
    omega
theorem sumTo_max {bs : List Blk} {b : Nat} : sumTo bs b ≤ sumTo bs bs.length := by
 by_cases h : b ≤ bs.length
 ·exact sumTo_mono h
 ·unfold sumTo
  rw [List.take_of_length_le (show bs.length ≤ b by omega), List.take_length]
  exact Nat.le_refl _
def firstsTo (bs : List Blk) (s : Nat) : List Int := (List.range (s + 1)).map fun b => (sumTo bs b : Int)
theorem firstsTo_len {bs : List Blk} {s : Nat} : (firstsTo bs s).length = s + 1 := by simp [firstsTo]
theorem firstsTo_succ {bs : List Blk} {s : Nat} : firstsTo bs (s + 1) = firstsTo bs s ++ [(sumTo bs (s + 1) : Int)] := by
 unfold firstsTo
 rw [List.range_succ, List.map_append]
 rfl
theorem firstsTo_get {bs : List Blk} {s b : Nat} (h : b ≤ s) : (firstsTo bs s)[b]? = some (sumTo bs b : Int) := by
 simp [firstsTo, show b < s + 1 by omega]
theorem firstsTo_getD {bs : List Blk} {s b : Nat} (h : b ≤ s) : (firstsTo bs s).getD b 0 = (sumTo bs b : Int) := by
 rw [List.getD_eq_getElem?_getD, firstsTo_get h]
 rfl
def ptP (bs : List Blk) : AV := .rp [.sl ((firstsTo bs bs.length).map encN)]
set_option maxHeartbeats 1000000 in
theorem C27 (f : Fnc) (hl : f.blocks.length < 1000000) (hs : sumTo f.blocks f.blocks.length < 1000000000) : Ctr Tryz.prog 27 [.agg (encFn f)] [] (ret [ptP f.blocks]) := by
 apply ctr_b A27_ok rfl (Nat.le_of_ble_eq_true rfl)
 unfold A27
 simp only [initL, Nat.reduceAdd]
 simp -implicitDefEqProofs (disch := omega) only [↓reduceIte, go_sem, reduceToNat, reduceAdd, reduceLeDiff, reduceEqDiff, reduceSub, reduceMul, reduceCtorEq, encFn]
 refine loopL (σ := Nat) (fun s => ⟨[(3, .ref 9 0), (4, .int .i64 (sumTo f.blocks s : Int)), (11, .sl (f.blocks.map encBk)), (12, .int .i64 (f.blocks.length : Int)), (13, .int .i64 (s : Int))], [(9, .box [.hs 1009 s 0 (s + 1)]), (1009, .arr s 1 ((firstsTo f.blocks s).map encN))]⟩)
  (fun s => s ≤ f.blocks.length) (fun s => f.blocks.length - s) 0 (by simp -implicitDefEqProofs (disch := omega) only [↓reduceIte, go_sem, reduceToNat, reduceAdd, reduceLeDiff, reduceEqDiff, reduceSub, reduceMul, reduceCtorEq]; rfl) (Nat.zero_le _) ?_
 intro s h1
 have hmx := sumTo_max (bs := f.blocks) (b := s)
 have hmx2 := sumTo_max (bs := f.blocks) (b := s + 1)
 have hnx := firstsTo_succ (bs := f.blocks) (s := s)
 have hln := firstsTo_len (bs := f.blocks) (s := s)
 have hsn := fun x (h : f.blocks[s]? = some x) => sumTo_succ h
 have hend : s = f.blocks.length → ptP f.blocks = .rp [.sl ((firstsTo f.blocks s).map encN)] := fun e => by rw [e]; rfl
 generalize firstsTo f.blocks s = FS at hnx hln hend ⊢
 generalize hq : sumTo f.blocks s = q at hmx hsn ⊢
 simp -implicitDefEqProofs (disch := omega) only [↓reduceIte, go_sem, reduceToNat, reduceAdd, reduceLeDiff, reduceEqDiff, reduceSub, reduceMul, reduceCtorEq]
 refine ifD (fun c => ?_) (fun c => ?_)
 ·have hb : f.blocks[s]? = some f.blocks[s] := List.getElem?_eq_getElem (by omega)
  have hsn1 := hsn _ hb
  generalize f.blocks[s] = b at hb hsn1
  have hcp : ((s + 1 + 1 : Nat) : Int) * ((8 : Nat) : Int) ≤ 70368744177664 := by omega
  have hw : IntKind.i64.wrap ((q : Int) + (b.code.length : Int)) = ((q + b.code.length : Nat) : Int) := by rw [wrap64 (by omega) (by omega)]; omega
  simp -implicitDefEqProofs (disch := omega) only [↓reduceIte, go_sem, reduceToNat, reduceAdd, reduceLeDiff, reduceEqDiff, reduceSub, reduceMul, reduceCtorEq, hb, encBk, hcp, hln, hw]
  exact ⟨s + 1, by simp only [hnx, hsn1]; simp [encN], by omega, by omega⟩
 ·simp -implicitDefEqProofs (disch := omega) only [↓reduceIte, go_sem, reduceToNat, reduceAdd, reduceLeDiff, reduceEqDiff, reduceSub, reduceMul, reduceCtorEq]
  have hse : s = f.blocks.length := by omega
  refine ⟨?_, rfl⟩
  rw [hend hse, List.take_of_length_le (by simp [hln])]
theorem C68 (bs : List Blk) (hl : bs.length < 1000000) : Ctr Tryz.prog 68 [ptP bs] [] (ret [.int .i64 (bs.length : Int)]) := by
 apply ctr_b A68_ok rfl (Nat.le_of_ble_eq_true rfl)
 unfold A68
 have hln := firstsTo_len (bs := bs) (s := bs.length)
 simp only [initL, Nat.reduceAdd, ptP]
 simp -implicitDefEqProofs (disch := omega) only [↓reduceIte, go_sem, reduceToNat, reduceAdd, reduceLeDiff, reduceEqDiff, reduceSub, reduceMul, reduceCtorEq, hln]
 refine ⟨?_, rfl⟩
 congr 2
 omega
theorem C67 (l : List Int) (i d : Int) : Ctr Tryz.prog 67 [.sl (l.map encN), .int .i64 i, .int .i64 d] [] (ret [.int .i64 (if 0 ≤ i ∧ i < l.length then l.getD i.toNat 0 else d)]) := by
 apply ctr_b A67_ok rfl (Nat.le_of_ble_eq_true rfl)
 unfold A67
 simp only [initL, Nat.reduceAdd]
 simp -implicitDefEqProofs (disch := omega) only [↓reduceIte, go_sem, reduceToNat, reduceAdd, reduceLeDiff, reduceEqDiff, reduceSub, reduceMul, reduceCtorEq]
 refine ifD (fun c => ?_) (fun c => ?_)
 ·simp -implicitDefEqProofs (disch := omega) only [↓reduceIte, go_sem, reduceToNat, reduceAdd, reduceLeDiff, reduceEqDiff, reduceSub, reduceMul, reduceCtorEq]
  exact ⟨by rw [if_neg (by omega)], rfl⟩
 ·simp -implicitDefEqProofs (disch := omega) only [↓reduceIte, go_sem, reduceToNat, reduceAdd, reduceLeDiff, reduceEqDiff, reduceSub, reduceMul, reduceCtorEq]
  refine ifD (fun c2 => ?_) (fun c2 => ?_)
  ·simp -implicitDefEqProofs (disch := omega) only [↓reduceIte, go_sem, reduceToNat, reduceAdd, reduceLeDiff, reduceEqDiff, reduceSub, reduceMul, reduceCtorEq]
   exact ⟨by rw [if_neg (by omega)], rfl⟩
  ·have hg := getZ (l := l) (k := i.toNat) (by omega)
   simp -implicitDefEqProofs (disch := omega) only [↓reduceIte, go_sem, reduceToNat, reduceAdd, reduceLeDiff, reduceEqDiff, reduceSub, reduceMul, reduceCtorEq, hg, encN]
   exact ⟨by rw [if_pos (by omega)], rfl⟩
theorem C41 (bs : List Blk) (hl : bs.length < 1000000) : Ctr Tryz.prog 41 [ptP bs] [] (ret [.int .i64 (sumTo bs bs.length : Int)]) := by
 have hn := C67 (firstsTo bs bs.length) (bs.length : Int) 0
 rw [if_pos (by rw [firstsTo_len]; omega), Int.toNat_natCast, firstsTo_getD (Nat.le_refl _)] at hn
 have hb := C68 bs hl
 simp only [ptP] at hb
 apply ctr_b A41_ok rfl (Nat.le_of_ble_eq_true rfl)
 unfold A41
 simp only [initL, Nat.reduceAdd, ptP]
 simp -implicitDefEqProofs (disch := omega) only [↓reduceIte, go_sem, reduceToNat, reduceAdd, reduceLeDiff, reduceEqDiff, reduceSub, reduceMul, reduceCtorEq]
 refine callL hb ?_
 simp -implicitDefEqProofs (disch := omega) only [↓reduceIte, go_sem, reduceToNat, reduceAdd, reduceLeDiff, reduceEqDiff, reduceSub, reduceMul, reduceCtorEq]
 refine callL hn ?_
 simp -implicitDefEqProofs (disch := omega) only [↓reduceIte, go_sem, reduceToNat, reduceAdd, reduceLeDiff, reduceEqDiff, reduceSub, reduceMul, reduceCtorEq]
 refine accL (by kernel_rfl) ?_
 simp -implicitDefEqProofs (disch := omega) only [↓reduceIte, go_sem, reduceToNat, reduceAdd, reduceLeDiff, reduceEqDiff, reduceSub, reduceMul, reduceCtorEq]
 exact ⟨rfl, rfl⟩
def lenP (bs : List Blk) (b : Int) : Int := if 0 ≤ b ∧ b < bs.length then (sumTo bs (b.toNat + 1) : Int) - (sumTo bs b.toNat : Int) else 0
def ofP (bs : List Blk) (b i : Int) : Int := if i < 0 ∨ lenP bs b ≤ i then -1 else (sumTo bs b.toNat : Int) + i
def aheadP (bs : List Blk) (b i : Int) : Int := if ofP bs b i < 0 then -1 else 2 * ofP bs b i
def behindP (bs : List Blk) (b i : Int) : Int := if i = lenP bs b - 1 then -1 else if ofP bs b i < 0 then -1 else 2 * ofP bs b i + 1
def spanP (bs : List Blk) (b : Int) : Int × Int := if lenP bs b = 0 then (0, 0) else (aheadP bs b 0, aheadP bs b (lenP bs b - 1) + 1)
def whB (bs : List Blk) (n : Int) : Nat := lbI (firstsTo bs bs.length) (n + 1) - 1
def whereP (bs : List Blk) (n : Int) : Int × Int := if n < 0 ∨ (sumTo bs bs.length : Int) ≤ n then (-1, -1) else ((whB bs n : Int), n - (sumTo bs (whB bs n) : Int))
def blockP (bs : List Blk) (p : Int) : Int := if p < 0 then -1 else if 0 ≤ (whereP bs (p / 2)).1 ∧ p % 2 = 1 ∧ behindP bs (whereP bs (p / 2)).1 (whereP bs (p / 2)).2 < 0 then -1 else (whereP bs (p / 2)).1
/-- A function that is not too long. -/
structure PtOk (bs : List Blk) : Prop where
 len : bs.length < 900000
 sum : sumTo bs bs.length < 1000000000
theorem lenP_le {bs : List Blk} (h : PtOk bs) (b : Int) : 0 ≤ lenP bs b ∧ lenP bs b < 1000000000 := by
 unfold lenP
 split
 ·have h1 := sumTo_mono (bs := bs) (a := b.toNat) (b := b.toNat + 1) (by omega)
  have h2 := sumTo_max (bs := bs) (b := b.toNat + 1)
  have := h.sum
  omega
 ·omega
theorem lenP_in {bs : List Blk} {b i : Int} (h1 : 0 ≤ i) (h2 : i < lenP bs b) : 0 ≤ b ∧ b < bs.length ∧ (sumTo bs b.toNat : Int) + i < sumTo bs (b.toNat + 1) := by
 unfold lenP at h2
 split at h2
 ·omega
 ·omega
theorem C70 (bs : List Blk) (h : PtOk bs) (b : Int) : Ctr Tryz.prog 70 [ptP bs, .int .i64 b] [] (ret [.int .i64 (lenP bs b)]) := by
 have hl := h.len
 have hb := C68 bs (by have := h.len; omega)
 have hll := lenP_le h b
 simp only [ptP] at hb
 apply ctr_b A70_ok rfl (Nat.le_of_ble_eq_true rfl)
 unfold A70
 simp only [initL, Nat.reduceAdd, ptP]
 simp -implicitDefEqProofs (disch := omega) only [↓reduceIte, go_sem, reduceToNat, reduceAdd, reduceLeDiff, reduceEqDiff, reduceSub, reduceMul, reduceCtorEq]
 refine ifD (fun c => ?_) (fun c => ?_)
 ·simp -implicitDefEqProofs (disch := omega) only [↓reduceIte, go_sem, reduceToNat, reduceAdd, reduceLeDiff, reduceEqDiff, reduceSub, reduceMul, reduceCtorEq]
  exact ⟨by rw [lenP, if_neg (by omega)], rfl⟩
 ·simp -implicitDefEqProofs (disch := omega) only [↓reduceIte, go_sem, reduceToNat, reduceAdd, reduceLeDiff, reduceEqDiff, reduceSub, reduceMul, reduceCtorEq]
  refine callL hb ?_
  simp -implicitDefEqProofs (disch := omega) only [↓reduceIte, go_sem, reduceToNat, reduceAdd, reduceLeDiff, reduceEqDiff, reduceSub, reduceMul, reduceCtorEq]
  refine ifD (fun c2 => ?_) (fun c2 => ?_)
  ·simp -implicitDefEqProofs (disch := omega) only [↓reduceIte, go_sem, reduceToNat, reduceAdd, reduceLeDiff, reduceEqDiff, reduceSub, reduceMul, reduceCtorEq]
   exact ⟨by rw [lenP, if_neg (by omega)], rfl⟩
  ·have g1 := firstsTo_get (bs := bs) (s := bs.length) (b := b.toNat) (by omega)
   have g2 := firstsTo_get (bs := bs) (s := bs.length) (b := b.toNat + 1) (by omega)
   have t1 : (b + 1).toNat = b.toNat + 1 := by omega
   have hw : lenP bs b = (sumTo bs (b.toNat + 1) : Int) - (sumTo bs b.toNat : Int) := by rw [lenP, if_pos (by omega)]
   have hw2 : IntKind.i64.wrap ((sumTo bs (b.toNat + 1) : Int) - (sumTo bs b.toNat : Int)) = lenP bs b := by rw [← hw, wrap64 (by omega) (by omega)]
   simp -implicitDefEqProofs (disch := omega) only [↓reduceIte, go_sem, reduceToNat, reduceAdd, reduceLeDiff, reduceEqDiff, reduceSub, reduceMul, reduceCtorEq, g1, g2, t1, encN, hw2]
   refine accL (by kernel_rfl) ?_
   simp -implicitDefEqProofs (disch := omega) only [↓reduceIte, go_sem, reduceToNat, reduceAdd, reduceLeDiff, reduceEqDiff, reduceSub, reduceMul, reduceCtorEq, g1, g2, t1, encN, hw2]
   exact ⟨rfl, rfl⟩
theorem ofP_le {bs : List Blk} (h : PtOk bs) (b i : Int) : -1 ≤ ofP bs b i ∧ ofP bs b i < 1000000000 := by
 unfold ofP
 split
 ·omega
 ·have := lenP_in (bs := bs) (b := b) (i := i) (by omega) (by omega)
  have h2 := sumTo_max (bs := bs) (b := b.toNat + 1)
  have := h.sum
  omega
theorem C46 (bs : List Blk) (h : PtOk bs) (b i : Int) : Ctr Tryz.prog 46 [ptP bs, .int .i64 b, .int .i64 i] [] (ret [.int .i64 (ofP bs b i)]) := by
 have hl := h.len
 have hle := C70 bs h b
 have hll := ofP_le h b i
 simp only [ptP] at hle
 apply ctr_b A46_ok rfl (Nat.le_of_ble_eq_true rfl)
 unfold A46
 simp only [initL, Nat.reduceAdd, ptP]
 simp -implicitDefEqProofs (disch := omega) only [↓reduceIte, go_sem, reduceToNat, reduceAdd, reduceLeDiff, reduceEqDiff, reduceSub, reduceMul, reduceCtorEq]
 refine ifD (fun c => ?_) (fun c => ?_)
 ·simp -implicitDefEqProofs (disch := omega) only [↓reduceIte, go_sem, reduceToNat, reduceAdd, reduceLeDiff, reduceEqDiff, reduceSub, reduceMul, reduceCtorEq]
  exact ⟨by rw [ofP, if_pos (by omega)], rfl⟩
 ·simp -implicitDefEqProofs (disch := omega) only [↓reduceIte, go_sem, reduceToNat, reduceAdd, reduceLeDiff, reduceEqDiff, reduceSub, reduceMul, reduceCtorEq]
  refine callL hle ?_
  simp -implicitDefEqProofs (disch := omega) only [↓reduceIte, go_sem, reduceToNat, reduceAdd, reduceLeDiff, reduceEqDiff, reduceSub, reduceMul, reduceCtorEq]
  refine ifD (fun c2 => ?_) (fun c2 => ?_)
  ·simp -implicitDefEqProofs (disch := omega) only [↓reduceIte, go_sem, reduceToNat, reduceAdd, reduceLeDiff, reduceEqDiff, reduceSub, reduceMul, reduceCtorEq]
   exact ⟨by rw [ofP, if_pos (by omega)], rfl⟩
  ·have hin := lenP_in (bs := bs) (b := b) (i := i) (by omega) (by omega)
   have g1 := firstsTo_get (bs := bs) (s := bs.length) (b := b.toNat) (by omega)
   have hw : ofP bs b i = (sumTo bs b.toNat : Int) + i := by rw [ofP, if_neg (by omega)]
   have hw2 : IntKind.i64.wrap ((sumTo bs b.toNat : Int) + i) = ofP bs b i := by rw [← hw, wrap64 (by omega) (by omega)]
   simp -implicitDefEqProofs (disch := omega) only [↓reduceIte, go_sem, reduceToNat, reduceAdd, reduceLeDiff, reduceEqDiff, reduceSub, reduceMul, reduceCtorEq, g1, encN, hw2]
   exact ⟨rfl, rfl⟩
theorem C71 (bs : List Blk) (h : PtOk bs) (b i : Int) : Ctr Tryz.prog 71 [ptP bs, .int .i64 b, .int .i64 i] [] (ret [.int .i64 (aheadP bs b i)]) := by
 have ho := C46 bs h b i
 have hll := ofP_le h b i
 simp only [ptP] at ho
 unfold aheadP
 generalize ofP bs b i = q at ho hll
 apply ctr_b A71_ok rfl (Nat.le_of_ble_eq_true rfl)
 unfold A71
 simp only [initL, Nat.reduceAdd, ptP]
 simp -implicitDefEqProofs (disch := omega) only [↓reduceIte, go_sem, reduceToNat, reduceAdd, reduceLeDiff, reduceEqDiff, reduceSub, reduceMul, reduceCtorEq]
 refine callL ho ?_
 simp -implicitDefEqProofs (disch := omega) only [↓reduceIte, go_sem, reduceToNat, reduceAdd, reduceLeDiff, reduceEqDiff, reduceSub, reduceMul, reduceCtorEq]
 refine ifD (fun c => ?_) (fun c => ?_)
 ·simp -implicitDefEqProofs (disch := omega) only [↓reduceIte, go_sem, reduceToNat, reduceAdd, reduceLeDiff, reduceEqDiff, reduceSub, reduceMul, reduceCtorEq]
  exact ⟨by rw [if_pos c], rfl⟩
 ·simp -implicitDefEqProofs (disch := omega) only [↓reduceIte, go_sem, reduceToNat, reduceAdd, reduceLeDiff, reduceEqDiff, reduceSub, reduceMul, reduceCtorEq]
  exact ⟨by rw [if_neg c], rfl⟩
theorem C92 (bs : List Blk) (h : PtOk bs) (b i : Int) : Ctr Tryz.prog 92 [ptP bs, .int .i64 b, .int .i64 i] [] (ret [.int .i64 (behindP bs b i)]) := by
 have ho := C46 bs h b i
 have hle := C70 bs h b
 have hll := ofP_le h b i
 have hl2 := lenP_le h b
 simp only [ptP] at ho hle
 unfold behindP
 generalize ofP bs b i = q at ho hll
 generalize lenP bs b = m at hle hl2
 apply ctr_b A92_ok rfl (Nat.le_of_ble_eq_true rfl)
 unfold A92
 simp only [initL, Nat.reduceAdd, ptP]
 simp -implicitDefEqProofs (disch := omega) only [↓reduceIte, go_sem, reduceToNat, reduceAdd, reduceLeDiff, reduceEqDiff, reduceSub, reduceMul, reduceCtorEq]
 refine callL hle ?_
 simp -implicitDefEqProofs (disch := omega) only [↓reduceIte, go_sem, reduceToNat, reduceAdd, reduceLeDiff, reduceEqDiff, reduceSub, reduceMul, reduceCtorEq]
 refine ifE (fun e => ?_) (fun e => ?_)
 ·simp -implicitDefEqProofs (disch := omega) only [↓reduceIte, go_sem, reduceToNat, reduceAdd, reduceLeDiff, reduceEqDiff, reduceSub, reduceMul, reduceCtorEq]
  exact ⟨by rw [if_pos e], rfl⟩
 ·simp -implicitDefEqProofs (disch := omega) only [↓reduceIte, go_sem, reduceToNat, reduceAdd, reduceLeDiff, reduceEqDiff, reduceSub, reduceMul, reduceCtorEq]
  refine callL ho ?_
  simp -implicitDefEqProofs (disch := omega) only [↓reduceIte, go_sem, reduceToNat, reduceAdd, reduceLeDiff, reduceEqDiff, reduceSub, reduceMul, reduceCtorEq]
  refine ifD (fun c => ?_) (fun c => ?_)
  ·simp -implicitDefEqProofs (disch := omega) only [↓reduceIte, go_sem, reduceToNat, reduceAdd, reduceLeDiff, reduceEqDiff, reduceSub, reduceMul, reduceCtorEq]
   exact ⟨by rw [if_neg e, if_pos c], rfl⟩
  ·simp -implicitDefEqProofs (disch := omega) only [↓reduceIte, go_sem, reduceToNat, reduceAdd, reduceLeDiff, reduceEqDiff, reduceSub, reduceMul, reduceCtorEq]
   exact ⟨by rw [if_neg e, if_neg c], rfl⟩
theorem C44 (bs : List Blk) (h : PtOk bs) (b : Int) : Ctr Tryz.prog 44 [ptP bs, .int .i64 b] [] (ret [.int .i64 (spanP bs b).1, .int .i64 (spanP bs b).2]) := by
 have hle := C70 bs h b
 have ha := C71 bs h b 0
 have ha2 := C71 bs h b (lenP bs b - 1)
 have hl2 := lenP_le h b
 have hq : -1 ≤ aheadP bs b (lenP bs b - 1) ∧ aheadP bs b (lenP bs b - 1) < 2000000000 := by
  have := ofP_le h b (lenP bs b - 1)
  unfold aheadP
  split <;> omega
 simp only [ptP] at hle ha ha2
 unfold spanP
 generalize aheadP bs b (lenP bs b - 1) = y at ha2 hq
 generalize aheadP bs b 0 = x at ha
 generalize lenP bs b = m at hle hl2 ha2
 apply ctr_b A44_ok rfl (Nat.le_of_ble_eq_true rfl)
 unfold A44
 simp only [initL, Nat.reduceAdd, ptP]
 simp -implicitDefEqProofs (disch := omega) only [↓reduceIte, go_sem, reduceToNat, reduceAdd, reduceLeDiff, reduceEqDiff, reduceSub, reduceMul, reduceCtorEq]
 refine callL hle ?_
 simp -implicitDefEqProofs (disch := omega) only [↓reduceIte, go_sem, reduceToNat, reduceAdd, reduceLeDiff, reduceEqDiff, reduceSub, reduceMul, reduceCtorEq]
 refine ifE (fun e => ?_) (fun e => ?_)
 ·simp -implicitDefEqProofs (disch := omega) only [↓reduceIte, go_sem, reduceToNat, reduceAdd, reduceLeDiff, reduceEqDiff, reduceSub, reduceMul, reduceCtorEq]
  exact ⟨by rw [if_pos e], rfl⟩
 ·simp -implicitDefEqProofs (disch := omega) only [↓reduceIte, go_sem, reduceToNat, reduceAdd, reduceLeDiff, reduceEqDiff, reduceSub, reduceMul, reduceCtorEq]
  refine callL ha ?_
  simp -implicitDefEqProofs (disch := omega) only [↓reduceIte, go_sem, reduceToNat, reduceAdd, reduceLeDiff, reduceEqDiff, reduceSub, reduceMul, reduceCtorEq]
  refine callL ha2 ?_
  simp -implicitDefEqProofs (disch := omega) only [↓reduceIte, go_sem, reduceToNat, reduceAdd, reduceLeDiff, reduceEqDiff, reduceSub, reduceMul, reduceCtorEq]
  exact ⟨by rw [if_neg e], rfl⟩
/- The numbers of a function's instructions, back: Where, Block. -/
theorem lb_ex {u : List Int} {x : Int} (hs : Srt u) : ∃ k, k ≤ u.length ∧ (∀ i, i < k → u.getD i 0 < x) ∧ (∀ i, k ≤ i → i < u.length → x ≤ u.getD i 0) := by
 suffices h : ∀ s, s ≤ u.length → ∃ k, k ≤ s ∧ (∀ i, i < k → u.getD i 0 < x) ∧ (∀ i, k ≤ i → i < s → x ≤ u.getD i 0) from h u.length (Nat.le_refl _)
 intro s
 induction s with
 | zero => exact fun _ => ⟨0, Nat.le_refl _, fun i hi => absurd hi (Nat.not_lt_zero _), fun i _ hi => absurd hi (Nat.not_lt_zero _)⟩
 | succ s ih =>
  intro hl
  have ⟨k, h1, h2, h3⟩ := ih (by omega)
  by_cases hk : k = s
  ·by_cases hx : u.getD s 0 < x
   ·refine ⟨s + 1, Nat.le_refl _, fun i hi => ?_, fun i a b => absurd a (by omega)⟩
    by_cases e : i = s
    ·rw [e]; exact hx
    ·exact h2 i (by omega)
   ·refine ⟨s, by omega, fun i hi => h2 i (by omega), fun i a b => ?_⟩
    rw [show i = s by omega]
    omega
  ·refine ⟨k, by omega, h2, fun i a b => ?_⟩
   by_cases e : i = s
   ·rw [e]
    have := h3 k (by omega) (by omega)
    have := hs k s (by omega) (by omega)
    omega
   ·exact h3 i a (by omega)
theorem firstsTo_srt {bs : List Blk} {s : Nat} : Srt (firstsTo bs s) := by
 intro i j hi hj
 rw [firstsTo_len] at hj
 rw [firstsTo_getD (by omega), firstsTo_getD (by omega)]
 have := sumTo_mono (bs := bs) (a := i) (b := j) (by omega)
 omega
theorem whB_spec {bs : List Blk} {n : Int} (h1 : 0 ≤ n) (h2 : n < sumTo bs bs.length) : lbI (firstsTo bs bs.length) (n + 1) = whB bs n + 1 ∧ whB bs n < bs.length ∧ (sumTo bs (whB bs n) : Int) ≤ n ∧ n < sumTo bs (whB bs n + 1) := by
 have ⟨k, a, b, c⟩ := lb_ex (x := n + 1) (firstsTo_srt (bs := bs) (s := bs.length))
 have e := lbI_eq a b c
 have hk : 1 ≤ k := by
  apply Nat.le_of_not_lt
  intro hk
  have := c 0 (by omega) (by rw [firstsTo_len]; omega)
  rw [firstsTo_getD (by omega)] at this
  have hz : sumTo bs 0 = 0 := rfl
  rw [hz] at this
  omega
 have hk2 : k ≤ bs.length := by
  apply Nat.le_of_not_lt
  intro hk
  have := b bs.length (by omega)
  rw [firstsTo_getD (by omega)] at this
  omega
 have hw : whB bs n = k - 1 := by rw [whB, e]
 have hb := b (k - 1) (by omega)
 have hc := c k (Nat.le_refl _) (by rw [firstsTo_len]; omega)
 rw [firstsTo_getD (by omega)] at hb hc
 rw [hw, show k - 1 + 1 = k by omega]
 exact ⟨e, by omega, by omega, by omega⟩
/-- The block that holds the place, told by its own two sums. -/
theorem whB_of {bs : List Blk} {b : Nat} {n : Int} (hb : b < bs.length) (h1 : (sumTo bs b : Int) ≤ n) (h2 : n < sumTo bs (b + 1)) : whB bs n = b := by
 have hmx := sumTo_max (bs := bs) (b := b + 1)
 have ⟨_, w1, w2, w3⟩ := whB_spec (bs := bs) (n := n) (by omega) (by omega)
 rcases Nat.lt_trichotomy (whB bs n) b with h | h | h
 ·have := sumTo_mono (bs := bs) (a := whB bs n + 1) (b := b) (by omega)
  omega
 ·exact h
 ·have := sumTo_mono (bs := bs) (a := b + 1) (b := whB bs n) (by omega)
  omega
theorem C64 (bs : List Blk) (h : PtOk bs) (n : Int) : Ctr Tryz.prog 64 [ptP bs, .int .i64 n] [] (ret [.int .i64 (whereP bs n).1, .int .i64 (whereP bs n).2]) := by
 have hl := h.len
 have hs := h.sum
 have hc := C41 bs (by omega)
 have hq := fun (a : 0 ≤ n) (b : n < sumTo bs bs.length) => C69 (firstsTo bs bs.length) (n + 1) firstsTo_srt (by rw [firstsTo_len]; omega)
 simp only [ptP] at hc
 apply ctr_b A64_ok rfl (Nat.le_of_ble_eq_true rfl)
 unfold A64
 simp only [initL, Nat.reduceAdd, ptP]
 have hmain : 0 ≤ n → n < sumTo bs bs.length → IntKind.i64.wrap (n + 1) = n + 1 := fun a b => wrap64 (by omega) (by omega)
 simp -implicitDefEqProofs (disch := omega) only [↓reduceIte, go_sem, reduceToNat, reduceAdd, reduceLeDiff, reduceEqDiff, reduceSub, reduceMul, reduceCtorEq]
 refine ifD (fun c => ?_) (fun c => ?_)
 ·simp -implicitDefEqProofs (disch := omega) only [↓reduceIte, go_sem, reduceToNat, reduceAdd, reduceLeDiff, reduceEqDiff, reduceSub, reduceMul, reduceCtorEq]
  exact ⟨by rw [whereP, if_pos (by omega)], rfl⟩
 ·simp -implicitDefEqProofs (disch := omega) only [↓reduceIte, go_sem, reduceToNat, reduceAdd, reduceLeDiff, reduceEqDiff, reduceSub, reduceMul, reduceCtorEq]
  refine callL hc ?_
  simp -implicitDefEqProofs (disch := omega) only [↓reduceIte, go_sem, reduceToNat, reduceAdd, reduceLeDiff, reduceEqDiff, reduceSub, reduceMul, reduceCtorEq]
  refine ifD (fun c2 => ?_) (fun c2 => ?_)
  ·simp -implicitDefEqProofs (disch := omega) only [↓reduceIte, go_sem, reduceToNat, reduceAdd, reduceLeDiff, reduceEqDiff, reduceSub, reduceMul, reduceCtorEq]
   exact ⟨by rw [whereP, if_pos (by omega)], rfl⟩
  ·have ⟨w0, w1, w2, w3⟩ := whB_spec (bs := bs) (n := n) (by omega) (by omega)
   have hq := hq (by omega) (by omega)
   have hmain := hmain (by omega) (by omega)
   have hw : whereP bs n = ((whB bs n : Int), n - (sumTo bs (whB bs n) : Int)) := by rw [whereP, if_neg (by omega)]
   have hg := firstsTo_get (bs := bs) (s := bs.length) (b := whB bs n) (by omega)
   rw [w0] at hq
   rw [hw]
   have hk : ((whB bs n + 1 : Nat) : Int) - 1 = ((whB bs n : Nat) : Int) := by omega
   have hd : IntKind.i64.wrap (n - (sumTo bs (whB bs n) : Int)) = n - (sumTo bs (whB bs n) : Int) := wrap64 (by omega) (by omega)
   generalize whB bs n = k at *
   simp -implicitDefEqProofs (disch := omega) only [↓reduceIte, go_sem, reduceToNat, reduceAdd, reduceLeDiff, reduceEqDiff, reduceSub, reduceMul, reduceCtorEq, hmain]
   refine callL hq ?_
   simp -implicitDefEqProofs (disch := omega) only [↓reduceIte, go_sem, reduceToNat, reduceAdd, reduceLeDiff, reduceEqDiff, reduceSub, reduceMul, reduceCtorEq]
   refine ifB (fun b => ?_) (fun b => ?_)
   ·simp -implicitDefEqProofs (disch := omega) only [↓reduceIte, go_sem, reduceToNat, reduceAdd, reduceLeDiff, reduceEqDiff, reduceSub, reduceMul, reduceCtorEq, hk, hg, encN, hd]
    refine accL (by kernel_rfl) ?_
    simp -implicitDefEqProofs (disch := omega) only [↓reduceIte, go_sem, reduceToNat, reduceAdd, reduceLeDiff, reduceEqDiff, reduceSub, reduceMul, reduceCtorEq, hk, hg, encN, hd]
    exact ⟨rfl, rfl⟩
   ·simp -implicitDefEqProofs (disch := omega) only [↓reduceIte, go_sem, reduceToNat, reduceAdd, reduceLeDiff, reduceEqDiff, reduceSub, reduceMul, reduceCtorEq, hk, hg, encN, hd]
    refine accL (by kernel_rfl) ?_
    simp -implicitDefEqProofs (disch := omega) only [↓reduceIte, go_sem, reduceToNat, reduceAdd, reduceLeDiff, reduceEqDiff, reduceSub, reduceMul, reduceCtorEq, hk, hg, encN, hd]
    exact ⟨rfl, rfl⟩
theorem C63 (bs : List Blk) (h : PtOk bs) (p : Int) (hp : p < 9223372036854775808) : Ctr Tryz.prog 63 [ptP bs, .int .i64 p] [] (ret [.int .i64 (blockP bs p)]) := by
 have hw := C64 bs h (p.tdiv 2)
 have hb := C92 bs h (whereP bs (p / 2)).1 (whereP bs (p / 2)).2
 simp only [ptP] at hw hb
 apply ctr_b A63_ok rfl (Nat.le_of_ble_eq_true rfl)
 unfold A63
 simp only [initL, Nat.reduceAdd, ptP, blockP]
 simp -implicitDefEqProofs (disch := omega) only [↓reduceIte, go_sem, reduceToNat, reduceAdd, reduceLeDiff, reduceEqDiff, reduceSub, reduceMul, reduceCtorEq]
 refine ifD (fun c => ?_) (fun c => ?_)
 ·simp -implicitDefEqProofs (disch := omega) only [↓reduceIte, go_sem, reduceToNat, reduceAdd, reduceLeDiff, reduceEqDiff, reduceSub, reduceMul, reduceCtorEq]
  exact ⟨by rw [if_pos c], rfl⟩
 ·have ht : p.tdiv 2 = p / 2 := Int.tdiv_eq_ediv_of_nonneg (by omega)
  have ht2 : IntKind.i64.wrap (p / 2) = p / 2 := wrap64 (by omega) (by omega)
  rw [ht] at hw
  generalize whereP bs (p / 2) = w at hw hb
  generalize behindP bs w.1 w.2 = z at hb
  simp -implicitDefEqProofs (disch := omega) only [↓reduceIte, go_sem, reduceToNat, reduceAdd, reduceLeDiff, reduceEqDiff, reduceSub, reduceMul, reduceCtorEq, ht, ht2]
  refine callL hw ?_
  simp -implicitDefEqProofs (disch := omega) only [↓reduceIte, go_sem, reduceToNat, reduceAdd, reduceLeDiff, reduceEqDiff, reduceSub, reduceMul, reduceCtorEq]
  refine ifD (fun c2 => ?_) (fun c2 => ?_)
  ·have ht3 : p.tmod 2 = p % 2 := Int.tmod_eq_emod_of_nonneg (by omega)
   simp -implicitDefEqProofs (disch := omega) only [↓reduceIte, go_sem, reduceToNat, reduceAdd, reduceLeDiff, reduceEqDiff, reduceSub, reduceMul, reduceCtorEq, ht3]
   refine ifE (fun e => ?_) (fun e => ?_)
   ·simp -implicitDefEqProofs (disch := omega) only [↓reduceIte, go_sem, reduceToNat, reduceAdd, reduceLeDiff, reduceEqDiff, reduceSub, reduceMul, reduceCtorEq]
    refine callL hb ?_
    simp -implicitDefEqProofs (disch := omega) only [↓reduceIte, go_sem, reduceToNat, reduceAdd, reduceLeDiff, reduceEqDiff, reduceSub, reduceMul, reduceCtorEq]
    refine ifD (fun c3 => ?_) (fun c3 => ?_)
    ·simp -implicitDefEqProofs (disch := omega) only [↓reduceIte, go_sem, reduceToNat, reduceAdd, reduceLeDiff, reduceEqDiff, reduceSub, reduceMul, reduceCtorEq]
     exact ⟨by rw [if_neg c, if_pos (by omega)], rfl⟩
    ·simp -implicitDefEqProofs (disch := omega) only [↓reduceIte, go_sem, reduceToNat, reduceAdd, reduceLeDiff, reduceEqDiff, reduceSub, reduceMul, reduceCtorEq]
     exact ⟨by rw [if_neg c, if_neg (by omega)], rfl⟩
   ·simp -implicitDefEqProofs (disch := omega) only [↓reduceIte, go_sem, reduceToNat, reduceAdd, reduceLeDiff, reduceEqDiff, reduceSub, reduceMul, reduceCtorEq]
    exact ⟨by rw [if_neg c, if_neg (by omega)], rfl⟩
  ·simp -implicitDefEqProofs (disch := omega) only [↓reduceIte, go_sem, reduceToNat, reduceAdd, reduceLeDiff, reduceEqDiff, reduceSub, reduceMul, reduceCtorEq]
   exact ⟨by rw [if_neg c, if_neg (by omega)], rfl⟩
/- Sets of any version; a set's copy. -/
set_option maxHeartbeats 1000000
def setV (v : Nat) (bs : List Bool) : List Ob := [.box [.int .i64 (bs.length : Int), .hs 1 v 0 (nw bs.length)], .arr v 1 (encWs bs)]
theorem addV (v : Nat) (bs : List Bool) (i : Int) (hl : bs.length < 2 ^ 62) : Ctr Tryz.prog 65 [.ref 0 0, .int .i64 i] (setV v bs) (retO [.bool (addR bs i)] (setV v (addS bs i))) := by
 unfold setV
 rw [addS_len]
 apply ctr_b A65_ok rfl (Nat.le_of_ble_eq_true rfl)
 unfold A65
 simp only [initL, Nat.reduceAdd]
 simp -implicitDefEqProofs (disch := omega) only [↓reduceIte, go_sem, reduceToNat, reduceAdd, reduceLeDiff, reduceEqDiff, reduceSub, reduceMul, reduceCtorEq, encWs_take]
 refine callL (C72 bs i) ?_
 simp -implicitDefEqProofs (disch := omega) only [↓reduceIte, go_sem, reduceToNat, reduceAdd, reduceLeDiff, reduceEqDiff, reduceSub, reduceMul, reduceCtorEq, encWs_take]
 cases h : inB bs i with
 | false =>
  simp -implicitDefEqProofs (disch := omega) only [↓reduceIte, go_sem, reduceToNat, reduceAdd, reduceLeDiff, reduceEqDiff, reduceSub, reduceMul, reduceCtorEq]
  have e1 : addR bs i = false := by simp [addR, h]
  have e2 : addS bs i = bs := by simp [addS, h]
  rw [e1, e2]
  exact ⟨rfl, rfl⟩
 | true =>
  simp -implicitDefEqProofs (disch := omega) only [↓reduceIte, go_sem, reduceToNat, reduceAdd, reduceLeDiff, reduceEqDiff, reduceSub, reduceMul, reduceCtorEq, encWs_take]
  refine callL (C45 bs i hl) ?_
  simp -implicitDefEqProofs (disch := omega) only [↓reduceIte, go_sem, reduceToNat, reduceAdd, reduceLeDiff, reduceEqDiff, reduceSub, reduceMul, reduceCtorEq]
  cases h2 : hasB bs i with
  | true =>
   simp -implicitDefEqProofs (disch := omega) only [↓reduceIte, go_sem, reduceToNat, reduceAdd, reduceLeDiff, reduceEqDiff, reduceSub, reduceMul, reduceCtorEq]
   have e1 : addR bs i = false := by simp [addR, h2]
   rw [e1, addS_has h2]
   exact ⟨rfl, rfl⟩
  | false =>
   have hb := h
   unfold inB at hb
   have hb := of_decide_eq_true hb
   obtain ⟨m, rfl⟩ := Int.eq_ofNat_of_zero_le hb.1
   have hm : m < bs.length := by omega
   have hk := nw_div hm
   have q1 := wrapI (m := m / 64) (by omega)
   have q2 := shl_nat (j := m % 64) (by omega)
   have q3 := bOr_nat (a := wordAt bs (m / 64)) (b := 2 ^ (m % 64)) (chunk_lt bs (m / 64)) (Nat.pow_lt_pow_right (by omega) (by omega))
   have q4 := encWs_set bs (bs.set m true) (m / 64) _ (add_word bs m hm)
   simp -implicitDefEqProofs (disch := omega) only [↓reduceIte, go_sem, reduceToNat, reduceAdd, reduceLeDiff, reduceEqDiff, reduceSub, reduceMul, reduceCtorEq, quo64, rem64, q1, q2, encWs_get bs hk, q3]
   refine accL (by kernel_rfl) ?_
   simp -implicitDefEqProofs (disch := omega) only [↓reduceIte, go_sem, reduceToNat, reduceAdd, reduceLeDiff, reduceEqDiff, reduceSub, reduceMul, reduceCtorEq]
   have e1 : addR bs (m : Int) = true := by simp [addR, h, h2]
   have e2 : addS bs (m : Int) = bs.set m true := by simp [addS, h]
   rw [e1, e2]
   refine ⟨rfl, ?_⟩
   rw [← q4]
   rfl
theorem dropV (v : Nat) (bs : List Bool) (i : Int) (hl : bs.length < 2 ^ 62) : Ctr Tryz.prog 47 [.ref 0 0, .int .i64 i] (setV v bs) (retO [.bool (hasB bs i)] (setV v (dropS bs i))) := by
 unfold setV
 rw [dropS_len]
 apply ctr_b A47_ok rfl (Nat.le_of_ble_eq_true rfl)
 unfold A47
 simp only [initL, Nat.reduceAdd]
 simp -implicitDefEqProofs (disch := omega) only [↓reduceIte, go_sem, reduceToNat, reduceAdd, reduceLeDiff, reduceEqDiff, reduceSub, reduceMul, reduceCtorEq, encWs_take]
 refine callL (C45 bs i hl) ?_
 simp -implicitDefEqProofs (disch := omega) only [↓reduceIte, go_sem, reduceToNat, reduceAdd, reduceLeDiff, reduceEqDiff, reduceSub, reduceMul, reduceCtorEq]
 cases h : hasB bs i with
 | false =>
  simp -implicitDefEqProofs (disch := omega) only [↓reduceIte, go_sem, reduceToNat, reduceAdd, reduceLeDiff, reduceEqDiff, reduceSub, reduceMul, reduceCtorEq]
  rw [dropS_has h]
  exact ⟨rfl, rfl⟩
 | true =>
  have hin := hasB_in h
  have hb := hin
  unfold inB at hb
  have hb := of_decide_eq_true hb
  obtain ⟨m, rfl⟩ := Int.eq_ofNat_of_zero_le hb.1
  have hm : m < bs.length := by omega
  have hk := nw_div hm
  have q1 := wrapI (m := m / 64) (by omega)
  have q2 := shl_nat (j := m % 64) (by omega)
  have q3 := bAndNot_nat (a := wordAt bs (m / 64)) (b := 2 ^ (m % 64)) (chunk_lt bs (m / 64)) (Nat.pow_lt_pow_right (by omega) (by omega))
  have q4 := encWs_set bs (bs.set m false) (m / 64) _ (drop_word bs m hm)
  simp -implicitDefEqProofs (disch := omega) only [↓reduceIte, go_sem, reduceToNat, reduceAdd, reduceLeDiff, reduceEqDiff, reduceSub, reduceMul, reduceCtorEq, quo64, rem64, q1, q2, encWs_get bs hk, q3]
  refine accL (by kernel_rfl) ?_
  simp -implicitDefEqProofs (disch := omega) only [↓reduceIte, go_sem, reduceToNat, reduceAdd, reduceLeDiff, reduceEqDiff, reduceSub, reduceMul, reduceCtorEq]
  have e2 : dropS bs (m : Int) = bs.set m false := by simp [dropS, hin]
  rw [e2]
  refine ⟨rfl, ?_⟩
  rw [← q4]
  rfl
theorem C91 (bs : List Bool) (hl : bs.length < 1000000000) : Ctr Tryz.prog 91 [.sl (encWs bs)] [] (retO [.hs 0 1 0 (nw bs.length)] [.arr 1 1 (encWs bs)]) := by
 have hel := encWs_len bs
 have hnw : nw bs.length < 1000000000 := by unfold nw; omega
 have hall : ∀ c ∈ encWs bs, c.length = 1 := by
  intro c hc
  unfold encWs at hc
  have ⟨w, _, e⟩ := List.mem_map.1 hc
  rw [← e]
  rfl
 have hh : (∀ c ∈ encWs bs, c.length = 1) = True := eq_true hall
 generalize encWs bs = ws at hel hh ⊢
 generalize nw bs.length = m at hel hnw ⊢
 apply ctr_b A91_ok rfl (Nat.le_of_ble_eq_true rfl)
 unfold A91
 simp only [initL, Nat.reduceAdd]
 have hnil : ws = [] → m = 0 := fun e => by rw [← hel, e]; rfl
 have htk : ws.take m = ws := List.take_of_length_le (by omega)
 simp -implicitDefEqProofs (disch := omega) only [↓reduceIte, go_sem, reduceToNat, reduceAdd, reduceLeDiff, reduceEqDiff, reduceSub, reduceMul, reduceCtorEq, hh, hel]
 cases hw : ws with
 | nil =>
  have hm := hnil hw
  rw [hm]
  simp -implicitDefEqProofs (disch := omega) only [↓reduceIte, go_sem, reduceToNat, reduceAdd, reduceLeDiff, reduceEqDiff, reduceSub, reduceMul, reduceCtorEq]
  exact ⟨rfl, rfl⟩
 | cons c r =>
  rw [hw] at hh hel
  simp only [List.length_cons] at hel
  simp only [List.mem_cons, forall_eq_or_imp] at hh
  simp -implicitDefEqProofs (disch := omega) only [↓reduceIte, go_sem, reduceToNat, reduceAdd, reduceLeDiff, reduceEqDiff, reduceSub, reduceMul, reduceCtorEq, hh, hel]
  exact ⟨rfl, rfl⟩
theorem copyC (bs : List Bool) (hl : bs.length < 1000000000) : Ctr Tryz.prog 59 [setP bs] [] (retO [.ref 0 0] (setV 1 bs)) := by
 have hc := C91 bs hl
 unfold setP setV
 generalize encWs bs = ws at hc ⊢
 generalize nw bs.length = m at hc ⊢
 apply ctr_b A59_ok rfl (Nat.le_of_ble_eq_true rfl)
 unfold A59
 simp only [initL, Nat.reduceAdd]
 simp -implicitDefEqProofs (disch := omega) only [↓reduceIte, go_sem, reduceToNat, reduceAdd, reduceLeDiff, reduceEqDiff, reduceSub, reduceMul, reduceCtorEq]
 refine callD hc ?_
 simp -implicitDefEqProofs (disch := omega) only [↓reduceIte, go_sem, reduceToNat, reduceAdd, reduceLeDiff, reduceEqDiff, reduceSub, reduceMul, reduceCtorEq]
 refine accL (by kernel_rfl) ?_
 simp -implicitDefEqProofs (disch := omega) only [↓reduceIte, go_sem, reduceToNat, reduceAdd, reduceLeDiff, reduceEqDiff, reduceSub, reduceMul, reduceCtorEq]
 exact ⟨rfl, rfl⟩
/- Live, out of one instruction, one block: place, ahead, upTo. -/
def placeL (u : List Int) (x : Int) : Int := if foundI u x = true then (lbI u x : Int) else -1
def encSet (s : List Bool) : List AV := [setP s]
/-- What live.New gives. -/
def lvP (f : Fnc) (u : List Int) (ins outs : List (List Bool)) : AV := .rp [.bool f.machine, .str f.name, .sl (f.regs.map encRg), .sl (f.params.map encO), .sl (f.blocks.map encBk), ptP f.blocks, .sl (u.map encN), .sl (ins.map encSet), .sl (outs.map encSet)]
theorem C43 (f : Fnc) (u : List Int) (ins outs : List (List Bool)) (x : Int) (hs : Srt u) (hl : u.length < 1000000) : Ctr Tryz.prog 43 [lvP f u ins outs, .int .i64 x] [] (ret [.int .i64 (placeL u x)]) := by
 have hb := C69 u x hs hl
 apply ctr_b A43_ok rfl (Nat.le_of_ble_eq_true rfl)
 unfold A43 lvP placeL
 simp only [initL, Nat.reduceAdd]
 simp -implicitDefEqProofs (disch := omega) only [↓reduceIte, go_sem, reduceToNat, reduceAdd, reduceLeDiff, reduceEqDiff, reduceSub, reduceMul, reduceCtorEq]
 refine callL hb ?_
 generalize foundI u x = z
 simp -implicitDefEqProofs (disch := omega) only [↓reduceIte, go_sem, reduceToNat, reduceAdd, reduceLeDiff, reduceEqDiff, reduceSub, reduceMul, reduceCtorEq]
 refine ifB (fun c => ?_) (fun c => ?_)
 ·simp -implicitDefEqProofs (disch := omega) only [↓reduceIte, go_sem, reduceToNat, reduceAdd, reduceLeDiff, reduceEqDiff, reduceSub, reduceMul, reduceCtorEq]
  exact ⟨by rw [if_pos (by simpa using c)], rfl⟩
 ·simp -implicitDefEqProofs (disch := omega) only [↓reduceIte, go_sem, reduceToNat, reduceAdd, reduceLeDiff, reduceEqDiff, reduceSub, reduceMul, reduceCtorEq]
  exact ⟨by rw [if_neg (by simpa using c)], rfl⟩
def argS (u : List Int) (s : List Bool) (a : Opd) : List Bool := if a.kind = 1 then addS s (placeL u a.n) else s
def dstS (u : List Int) (x : Ins) (s : List Bool) : List Bool := if x.dst.kind = 1 then dropS s (placeL u x.dst.n) else s
def aheadS (u : List Int) (x : Ins) (s : List Bool) : List Bool := x.args.foldl (argS u) (dstS u x s)
theorem argS_len {u : List Int} {s : List Bool} {a : Opd} : (argS u s a).length = s.length := by unfold argS; split <;> simp [addS_len]
theorem dstS_len {u : List Int} {s : List Bool} {x : Ins} : (dstS u x s).length = s.length := by unfold dstS; split <;> simp [dropS_len]
theorem args_len {u : List Int} {s : List Bool} {l : List Opd} : (l.foldl (argS u) s).length = s.length := by
 induction l generalizing s with
 | nil => rfl
 | cons a l ih => rw [List.foldl_cons, ih, argS_len]
theorem aheadS_len {u : List Int} {s : List Bool} {x : Ins} : (aheadS u x s).length = s.length := by rw [aheadS, args_len, dstS_len]
def setN (v n : Nat) (bs : List Bool) : List Ob := [.box [.int .i64 (n : Int), .hs 1 v 0 (nw n)], .arr v 1 (encWs bs)]
theorem setV_eq {v n : Nat} {bs : List Bool} (h : bs.length = n) : setV v bs = setN v n bs := by rw [setV, setN, h]
theorem addVN {v n : Nat} {bs : List Bool} {i : Int} (h : bs.length = n) (hl : n < 1000000000) : Ctr Tryz.prog 65 [.ref 0 0, .int .i64 i] (setN v n bs) (retO [.bool (addR bs i)] (setN v n (addS bs i))) := by
 have := addV v bs i (by omega)
 rwa [setV_eq h, setV_eq (n := n) (by rw [addS_len]; exact h)] at this
theorem dropVN {v n : Nat} {bs : List Bool} {i : Int} (h : bs.length = n) (hl : n < 1000000000) : Ctr Tryz.prog 47 [.ref 0 0, .int .i64 i] (setN v n bs) (retO [.bool (hasB bs i)] (setN v n (dropS bs i))) := by
 have := dropV v bs i (by omega)
 rwa [setV_eq h, setV_eq (n := n) (by rw [dropS_len]; exact h)] at this
theorem C62 (f : Fnc) (u : List Int) (ins outs : List (List Bool)) (v n : Nat) (x : Ins) (s : List Bool) (hs : Srt u) (hl : u.length < 1000000) (hn : s.length = n) (hm : n < 1000000000) (ha : x.args.length ≤ 9223372036854775807) :
  Ctr Tryz.prog 62 [lvP f u ins outs, .ref 0 0, .agg (encIn x)] (setN v n s) (retO [] (setN v n (aheadS u x s))) := by
 have hp := fun y => C43 f u ins outs y hs hl
 have hdn : (dstS u x s).length = n := by rw [dstS_len, hn]
 have hdr := dropVN (v := v) (i := placeL u x.dst.n) hn hm
 have hd1 : x.dst.kind = 1 → dropS s (placeL u x.dst.n) = dstS u x s := fun e => by rw [dstS, if_pos e]
 have hd2 : ¬ x.dst.kind = 1 → s = dstS u x s := fun e => by rw [dstS, if_neg e]
 apply ctr_b A62_ok rfl (Nat.le_of_ble_eq_true rfl)
 unfold A62 aheadS setN
 unfold setN at hdr
 have ⟨L, eL⟩ : ∃ L, lvP f u ins outs = .rp L := ⟨_, rfl⟩
 rw [eL] at hp ⊢
 simp only [initL, Nat.reduceAdd]
 generalize dstS u x s = t at hd1 hd2 hdn ⊢
 have htl : ∀ k, ((x.args.take k).foldl (argS u) t).length = n := fun k => by rw [args_len, hdn]
 have hnx : ∀ k a, x.args[k]? = some a → (x.args.take (k + 1)).foldl (argS u) t = argS u ((x.args.take k).foldl (argS u) t) a := fun k a h => by
  rw [List.take_add_one, h, Option.toList_some, List.foldl_append]
  rfl
 simp -implicitDefEqProofs (disch := omega) only [↓reduceIte, go_sem, reduceToNat, reduceAdd, reduceLeDiff, reduceEqDiff, reduceSub, reduceMul, reduceCtorEq, encIn]
 refine ifE (fun e => ?_) (fun e => ?_)
 ·rw [hd1 e] at hdr
  simp -implicitDefEqProofs (disch := omega) only [↓reduceIte, go_sem, reduceToNat, reduceAdd, reduceLeDiff, reduceEqDiff, reduceSub, reduceMul, reduceCtorEq]
  refine callL (hp x.dst.n) ?_
  simp -implicitDefEqProofs (disch := omega) only [↓reduceIte, go_sem, reduceToNat, reduceAdd, reduceLeDiff, reduceEqDiff, reduceSub, reduceMul, reduceCtorEq]
  refine callD hdr ?_
  simp -implicitDefEqProofs (disch := omega) only [↓reduceIte, go_sem, reduceToNat, reduceAdd, reduceLeDiff, reduceEqDiff, reduceSub, reduceMul, reduceCtorEq]
  refine loopL (σ := Nat) (fun k => ⟨[(0, .rp L), (1, .ref 0 0), (20, .sl (x.args.map encO)), (21, .int .i64 (x.args.length : Int)), (22, .int .i64 (k : Int))], [(0, .box [.int .i64 (n : Int), .hs 1 v 0 (nw n)]), (1, .arr v 1 (encWs ((x.args.take k).foldl (argS u) t)))]⟩)
   (fun k => k ≤ x.args.length) (fun k => x.args.length - k) 0 (by simp -implicitDefEqProofs (disch := omega) only [↓reduceIte, go_sem, reduceToNat, reduceAdd, reduceLeDiff, reduceEqDiff, reduceSub, reduceMul, reduceCtorEq]; rfl) (Nat.zero_le _) ?_
  intro k hk
  simp -implicitDefEqProofs (disch := omega) only [↓reduceIte, go_sem, reduceToNat, reduceAdd, reduceLeDiff, reduceEqDiff, reduceSub, reduceMul, reduceCtorEq]
  refine ifD (fun c => ?_) (fun c => ?_)
  ·have hx := List.getElem?_eq_getElem (l := x.args) (i := k) (by omega)
   generalize x.args[k] = a at hx
   have hlk := htl k
   have hn2 := hnx k a hx
   generalize (x.args.take k).foldl (argS u) t = q at hlk hn2 ⊢
   have had := addVN (v := v) (i := placeL u a.n) hlk hm
   have g4 : IntKind.i64.wrap ((k : Int) + 1) = ((k + 1 : Nat) : Int) := by rw [← wrapI (m := k + 1) (by omega)]; congr 1
   unfold setN at had
   simp -implicitDefEqProofs (disch := omega) only [↓reduceIte, go_sem, reduceToNat, reduceAdd, reduceLeDiff, reduceEqDiff, reduceSub, reduceMul, reduceCtorEq, hx, encO]
   refine ifE (fun e2 => ?_) (fun e2 => ?_)
   ·simp -implicitDefEqProofs (disch := omega) only [↓reduceIte, go_sem, reduceToNat, reduceAdd, reduceLeDiff, reduceEqDiff, reduceSub, reduceMul, reduceCtorEq]
    refine callL (hp a.n) ?_
    simp -implicitDefEqProofs (disch := omega) only [↓reduceIte, go_sem, reduceToNat, reduceAdd, reduceLeDiff, reduceEqDiff, reduceSub, reduceMul, reduceCtorEq]
    refine callD had ?_
    simp -implicitDefEqProofs (disch := omega) only [↓reduceIte, go_sem, reduceToNat, reduceAdd, reduceLeDiff, reduceEqDiff, reduceSub, reduceMul, reduceCtorEq, g4]
    exact ⟨k + 1, by rw [hn2, argS, if_pos e2], by omega, by omega⟩
   ·simp -implicitDefEqProofs (disch := omega) only [↓reduceIte, go_sem, reduceToNat, reduceAdd, reduceLeDiff, reduceEqDiff, reduceSub, reduceMul, reduceCtorEq, g4]
    exact ⟨k + 1, by rw [hn2, argS, if_neg e2], by omega, by omega⟩
  ·simp -implicitDefEqProofs (disch := omega) only [↓reduceIte, go_sem, reduceToNat, reduceAdd, reduceLeDiff, reduceEqDiff, reduceSub, reduceMul, reduceCtorEq]
   rw [show k = x.args.length by omega, List.take_length]
   exact ⟨rfl, rfl⟩
 ·rw [hd2 e]
  simp -implicitDefEqProofs (disch := omega) only [↓reduceIte, go_sem, reduceToNat, reduceAdd, reduceLeDiff, reduceEqDiff, reduceSub, reduceMul, reduceCtorEq]
  refine loopL (σ := Nat) (fun k => ⟨[(0, .rp L), (1, .ref 0 0), (20, .sl (x.args.map encO)), (21, .int .i64 (x.args.length : Int)), (22, .int .i64 (k : Int))], [(0, .box [.int .i64 (n : Int), .hs 1 v 0 (nw n)]), (1, .arr v 1 (encWs ((x.args.take k).foldl (argS u) t)))]⟩)
   (fun k => k ≤ x.args.length) (fun k => x.args.length - k) 0 (by simp -implicitDefEqProofs (disch := omega) only [↓reduceIte, go_sem, reduceToNat, reduceAdd, reduceLeDiff, reduceEqDiff, reduceSub, reduceMul, reduceCtorEq]; rfl) (Nat.zero_le _) ?_
  intro k hk
  simp -implicitDefEqProofs (disch := omega) only [↓reduceIte, go_sem, reduceToNat, reduceAdd, reduceLeDiff, reduceEqDiff, reduceSub, reduceMul, reduceCtorEq]
  refine ifD (fun c => ?_) (fun c => ?_)
  ·have hx := List.getElem?_eq_getElem (l := x.args) (i := k) (by omega)
   generalize x.args[k] = a at hx
   have hlk := htl k
   have hn2 := hnx k a hx
   generalize (x.args.take k).foldl (argS u) t = q at hlk hn2 ⊢
   have had := addVN (v := v) (i := placeL u a.n) hlk hm
   have g4 : IntKind.i64.wrap ((k : Int) + 1) = ((k + 1 : Nat) : Int) := by rw [← wrapI (m := k + 1) (by omega)]; congr 1
   unfold setN at had
   simp -implicitDefEqProofs (disch := omega) only [↓reduceIte, go_sem, reduceToNat, reduceAdd, reduceLeDiff, reduceEqDiff, reduceSub, reduceMul, reduceCtorEq, hx, encO]
   refine ifE (fun e2 => ?_) (fun e2 => ?_)
   ·simp -implicitDefEqProofs (disch := omega) only [↓reduceIte, go_sem, reduceToNat, reduceAdd, reduceLeDiff, reduceEqDiff, reduceSub, reduceMul, reduceCtorEq]
    refine callL (hp a.n) ?_
    simp -implicitDefEqProofs (disch := omega) only [↓reduceIte, go_sem, reduceToNat, reduceAdd, reduceLeDiff, reduceEqDiff, reduceSub, reduceMul, reduceCtorEq]
    refine callD had ?_
    simp -implicitDefEqProofs (disch := omega) only [↓reduceIte, go_sem, reduceToNat, reduceAdd, reduceLeDiff, reduceEqDiff, reduceSub, reduceMul, reduceCtorEq, g4]
    exact ⟨k + 1, by rw [hn2, argS, if_pos e2], by omega, by omega⟩
   ·simp -implicitDefEqProofs (disch := omega) only [↓reduceIte, go_sem, reduceToNat, reduceAdd, reduceLeDiff, reduceEqDiff, reduceSub, reduceMul, reduceCtorEq, g4]
    exact ⟨k + 1, by rw [hn2, argS, if_neg e2], by omega, by omega⟩
  ·simp -implicitDefEqProofs (disch := omega) only [↓reduceIte, go_sem, reduceToNat, reduceAdd, reduceLeDiff, reduceEqDiff, reduceSub, reduceMul, reduceCtorEq]
   rw [show k = x.args.length by omega, List.take_length]
   exact ⟨rfl, rfl⟩
def setC (v n : Nat) (bs : List Bool) : List Ob := [.box [.ref 1 0], .box [.int .i64 (n : Int), .hs 2 v 0 (nw n)], .arr v 1 (encWs bs)]
theorem C61 (f : Fnc) (u : List Int) (ins outs : List (List Bool)) (v n : Nat) (i : Int) (x : Ins) (s : List Bool) (hs : Srt u) (hl : u.length < 1000000) (hn : s.length = n) (hm : n < 1000000000) (ha : x.args.length ≤ 9223372036854775807) :
  Ctr Tryz.prog 61 [.int .i64 i, .agg (encIn x), .rp [lvP f u ins outs], .ref 0 0] (setC v n s) (retO [] (setC v n (aheadS u x s))) := by
 have hp := C62 f u ins outs v n x s hs hl hn hm ha
 apply ctr_b A61_ok rfl (Nat.le_of_ble_eq_true rfl)
 unfold A61 setC
 unfold setN at hp
 have ⟨L, eL⟩ : ∃ L, lvP f u ins outs = .rp L := ⟨_, rfl⟩
 rw [eL] at hp ⊢
 generalize aheadS u x s = q at hp ⊢
 simp only [initL, Nat.reduceAdd]
 simp -implicitDefEqProofs (disch := omega) only [↓reduceIte, go_sem, reduceToNat, reduceAdd, reduceLeDiff, reduceEqDiff, reduceSub, reduceMul, reduceCtorEq, encIn]
 unfold encIn at hp
 refine callD hp ?_
 simp -implicitDefEqProofs (disch := omega) only [↓reduceIte, go_sem, reduceToNat, reduceAdd, reduceLeDiff, reduceEqDiff, reduceSub, reduceMul, reduceCtorEq]
 exact ⟨rfl, rfl⟩
def backS (u : List Int) (l : List Ins) (s : List Bool) : List Bool := l.foldr (aheadS u) s
theorem backS_len {u : List Int} {l : List Ins} {s : List Bool} : (backS u l s).length = s.length := by
 induction l with
 | nil => rfl
 | cons a l ih => rw [backS, List.foldr_cons, aheadS_len]; exact ih
theorem backS_drop {u : List Int} {l : List Ins} {s : List Bool} {k : Nat} {x : Ins} (h : l[k]? = some x) : backS u (l.drop k) s = aheadS u x (backS u (l.drop (k + 1)) s) := by
 have ⟨hk, e⟩ := List.getElem?_eq_some_iff.1 h
 rw [List.drop_eq_getElem_cons hk, e]
 rfl
theorem C60 (f : Fnc) (u : List Int) (ins outs : List (List Bool)) (v n : Nat) (l : List Ins) (s : List Bool) (hs : Srt u) (hl : u.length < 1000000) (hn : s.length = n) (hm : n < 1000000000) (ha : ∀ x ∈ l, x.args.length ≤ 9223372036854775807) (hll : l.length < 1000000) :
  Ctr Tryz.prog 60 [.sl (l.map encIn), .fn 61 [.rp [lvP f u ins outs], .ref 0 0]] (setC v n s) (retO [] (setC v n (backS u l s))) := by
 have hp := fun i x t (h : t.length = n) (hx : x ∈ l) => C61 f u ins outs v n i x t hs hl h hm (ha x hx)
 apply ctr_b A60_ok rfl (Nat.le_of_ble_eq_true rfl)
 unfold A60 setC
 unfold setC at hp
 have ⟨L, eL⟩ : ∃ L, lvP f u ins outs = .rp L := ⟨_, rfl⟩
 rw [eL] at hp ⊢
 simp only [initL, Nat.reduceAdd]
 simp -implicitDefEqProofs (disch := omega) only [↓reduceIte, go_sem, reduceToNat, reduceAdd, reduceLeDiff, reduceEqDiff, reduceSub, reduceMul, reduceCtorEq]
 refine loopL (σ := Nat) (fun k => ⟨[(0, .sl (l.map encIn)), (1, .fn 61 [.rp [.rp L], .ref 0 0]), (4, .int .i64 ((k : Int) - 1))], [(0, .box [.ref 1 0]), (1, .box [.int .i64 (n : Int), .hs 2 v 0 (nw n)]), (2, .arr v 1 (encWs (backS u (l.drop k) s)))]⟩)
  (fun k => k ≤ l.length) (fun k => k) l.length (by simp -implicitDefEqProofs (disch := omega) only [↓reduceIte, go_sem, reduceToNat, reduceAdd, reduceLeDiff, reduceEqDiff, reduceSub, reduceMul, reduceCtorEq]; rw [List.drop_length]; rfl) (Nat.le_refl _) ?_
 intro k hk
 simp -implicitDefEqProofs (disch := omega) only [↓reduceIte, go_sem, reduceToNat, reduceAdd, reduceLeDiff, reduceEqDiff, reduceSub, reduceMul, reduceCtorEq]
 refine ifD (fun c => ?_) (fun c => ?_)
 ·have ⟨j, ej⟩ : ∃ j, k = j + 1 := ⟨k - 1, by omega⟩
  have hx := List.getElem?_eq_getElem (l := l) (i := j) (by omega)
  have hmem := List.mem_of_getElem? hx
  have hdr := backS_drop (u := u) (s := s) hx
  generalize l[j] = x at hx hmem hdr
  have hlt : (backS u (l.drop (j + 1)) s).length = n := by rw [backS_len, hn]
  have i1 : (k : Int) - 1 = (j : Int) := by omega
  have i2 : IntKind.i64.wrap ((j : Int) - 1) = (j : Int) - 1 := wrap64 (by omega) (by omega)
  rw [i1, ej]
  generalize backS u (l.drop (j + 1)) s = q at hdr hlt ⊢
  have hc := hp (j : Int) x q hlt hmem
  simp -implicitDefEqProofs (disch := omega) only [↓reduceIte, go_sem, reduceToNat, reduceAdd, reduceLeDiff, reduceEqDiff, reduceSub, reduceMul, reduceCtorEq, hx, encIn]
  unfold encIn at hc
  refine callD hc ?_
  simp -implicitDefEqProofs (disch := omega) only [↓reduceIte, go_sem, reduceToNat, reduceAdd, reduceLeDiff, reduceEqDiff, reduceSub, reduceMul, reduceCtorEq, i2]
  exact ⟨j, by rw [hdr], by omega, by omega⟩
 ·rw [show k = 0 by omega]
  simp -implicitDefEqProofs (disch := omega) only [↓reduceIte, go_sem, reduceToNat, reduceAdd, reduceLeDiff, reduceEqDiff, reduceSub, reduceMul, reduceCtorEq]
  exact ⟨rfl, rfl⟩
theorem C36 (f : Fnc) (u : List Int) (ins outs : List (List Bool)) (n b i : Nat) (B : Blk) (s : List Bool) (hs : Srt u) (hl : u.length < 1000000) (hn : s.length = n) (hm : n < 1000000000)
  (hB : f.blocks[b]? = some B) (ho : outs[b]? = some s) (hi : i ≤ B.code.length) (ha : ∀ x ∈ B.code, x.args.length ≤ 9223372036854775807) (hll : B.code.length < 1000000) :
  Ctr Tryz.prog 36 [lvP f u ins outs, .int .i64 (b : Int), .int .i64 (i : Int)] [] (retO [.ref 0 0] (setN 1 n (backS u (B.code.drop i) s))) := by
 have hp := C60 f u ins outs 1 n (B.code.drop i) s hs hl hn hm (fun x hx => ha x (List.mem_of_mem_drop hx)) (by rw [List.length_drop]; omega)
 have hcp := copyC s (by omega)
 apply ctr_b A36_ok rfl (Nat.le_of_ble_eq_true rfl)
 unfold A36 setN
 unfold setC at hp
 rw [setV_eq hn] at hcp
 unfold setN at hcp
 generalize backS u (B.code.drop i) s = q at hp ⊢
 rw [List.map_drop] at hp
 unfold lvP at hp ⊢
 unfold setP at hcp
 simp only [initL, Nat.reduceAdd]
 simp -implicitDefEqProofs (disch := omega) only [↓reduceIte, go_sem, reduceToNat, reduceAdd, reduceLeDiff, reduceEqDiff, reduceSub, reduceMul, reduceCtorEq, ho, encSet, setP]
 refine callD hcp ?_
 have hall : (∀ c ∈ B.code.map encIn, c.length = 10) = True := by simp [encIn]
 have htk : (B.code.map encIn).take B.code.length = B.code.map encIn := List.take_of_length_le (by simp)
 have hii : ((i : Int) ≤ (B.code.length : Int)) = True := by simp; omega
 simp -implicitDefEqProofs (disch := omega) only [↓reduceIte, go_sem, reduceToNat, reduceAdd, reduceLeDiff, reduceEqDiff, reduceSub, reduceMul, reduceCtorEq, hB, encBk, hall, htk, hii]
 refine callD hp ?_
 simp -implicitDefEqProofs (disch := omega) only [↓reduceIte, go_sem, reduceToNat, reduceAdd, reduceLeDiff, reduceEqDiff, reduceSub, reduceMul, reduceCtorEq]
 exact ⟨rfl, rfl⟩
/- What Live answers out of its sets: list, is, In, Out, at, Present, Through. -/
/-- A list's places as values. -/
def listL (u : List Int) (s : List Bool) : List Int := (ones s).map fun i => u.getD i 0
theorem listL_len {u : List Int} {s : List Bool} : (listL u s).length = (ones s).length := by simp [listL]
theorem listL_le {u : List Int} {s : List Bool} : (listL u s).length ≤ s.length := by rw [listL_len]; exact ones_le s
theorem ones_lt {s : List Bool} {i : Nat} (h : i ∈ ones s) : i < s.length := by
 unfold ones at h
 exact List.mem_range.1 (List.mem_filter.1 h).1
theorem C38 (f : Fnc) (u : List Int) (ins outs : List (List Bool)) (n : Nat) (s : List Bool) (hn : s.length = n) (hu : u.length = n) (hm : n < 1000000) :
  Ctr Tryz.prog 38 [lvP f u ins outs, .rp [.int .i64 (n : Int), .sl (encWs s)]] [] (retO [.hs 0 (listL u s).length 0 (listL u s).length] [.arr (listL u s).length 1 ((listL u s).map encN)]) := by
 have hi := I94 hn (by omega)
 rw [onesZ_eq] at hi
 have hol := onesI_len s
 have hle := ones_le s
 have hll := listL_len (u := u) (s := s)
 have hx : ∀ k x, (onesI s)[k]? = some x → ∃ j : Nat, x = (j : Int) ∧ j < u.length ∧ ∃ y, u[j]? = some y ∧ (listL u s).take (k + 1) = (listL u s).take k ++ [y] := by
  intro k x hk
  unfold onesI at hk
  rw [List.getElem?_map] at hk
  cases hj : (ones s)[k]? with
  | none => rw [hj] at hk; cases hk
  | some j =>
   rw [hj] at hk
   have hx := Option.some.inj hk
   have hlt := ones_lt (List.mem_of_getElem? hj)
   refine ⟨j, hx.symm, by omega, u.getD j 0, ?_, ?_⟩
   ·rw [List.getElem?_eq_getElem (by omega)]
    simp [List.getD_eq_getElem?_getD, show j < u.length by omega]
   ·rw [List.take_add_one]
    unfold listL
    rw [List.getElem?_map, hj]
    rfl
 generalize listL u s = R at hx hll ⊢
 apply ctr_bK A38_ok rfl (Nat.le_of_ble_eq_true rfl)
 unfold A38 lvP
 simp only [initL, Nat.reduceAdd]
 simp -implicitDefEqProofs (disch := omega) only [↓reduceIte, go_sem, reduceToNat, reduceAdd, reduceLeDiff, reduceEqDiff, reduceSub, reduceMul, reduceCtorEq]
 refine callL (C66 _) ?_
 simp -implicitDefEqProofs (disch := omega) only [↓reduceIte, go_sem, reduceToNat, reduceAdd, reduceLeDiff, reduceEqDiff, reduceSub, reduceMul, reduceCtorEq]
 have hlen : ((onesI s).map encZ).length = R.length := by simp [hol, hll]
 refine rangeM (σ := Nat) (xs := (onesI s).map encZ) rfl rfl hi (fun x hx => by obtain ⟨s, _, rfl⟩ := List.mem_map.1 hx; rfl)
  (fun k => [(5, .box [.hs 1005 k 0 k]), (1005, .arr k 1 ((R.take k).map encN))]) (fun k s => s = k ∧ k ≤ R.length) 0 (by simp -implicitDefEqProofs (disch := omega) only [↓reduceIte, go_sem, reduceToNat, reduceAdd, reduceLeDiff, reduceEqDiff, reduceSub, reduceMul, reduceCtorEq]) ⟨rfl, Nat.zero_le _⟩ (fun s => rfl) ?_ ?_
 ·rintro k x s1 hxk ⟨rfl, hk⟩
  obtain ⟨y, hy, rfl⟩ : ∃ y, (onesI s)[s1]? = some y ∧ encZ y = x := by simpa using hxk
  have hlt := (List.getElem?_eq_some_iff.1 hy).1
  have ⟨j, e1, e2, z, e3, e4⟩ := hx s1 y hy
  have hc : ((s1 + 1 : Nat) : Int) * ((8 : Nat) : Int) ≤ 70368744177664 := by omega
  have h1 : (R.take s1).length = s1 := by rw [List.length_take]; omega
  rw [e1]
  simp -implicitDefEqProofs (disch := omega) only [↓reduceIte, go_sem, reduceToNat, reduceAdd, reduceLeDiff, reduceEqDiff, reduceSub, reduceMul, reduceCtorEq, encZ, e3, encN, h1, hc]
  refine ⟨rfl, accL (by kernel_rfl) ?_⟩
  simp -implicitDefEqProofs (disch := omega) only [↓reduceIte, go_sem, reduceToNat, reduceAdd, reduceLeDiff, reduceEqDiff, reduceSub, reduceMul, reduceCtorEq, encZ, e3, encN, h1, hc]
  exact ⟨s1 + 1, by rw [e4]; simp [encN], rfl, by omega⟩
 ·rintro s1 ⟨rfl, hk⟩
  rw [hlen]
  simp -implicitDefEqProofs (disch := omega) only [↓reduceIte, go_sem, reduceToNat, reduceAdd, reduceLeDiff, reduceEqDiff, reduceSub, reduceMul, reduceCtorEq]
  rw [List.take_length]
  exact ⟨rfl, rfl⟩
def isL (outs : List (List Bool)) (b : Int) : Bool := decide (0 ≤ b ∧ b < outs.length)
theorem C40 (f : Fnc) (u : List Int) (ins outs : List (List Bool)) (b : Int) : Ctr Tryz.prog 40 [lvP f u ins outs, .int .i64 b] [] (ret [.bool (isL ins b)]) := by
 apply ctr_b A40_ok rfl (Nat.le_of_ble_eq_true rfl)
 unfold A40 lvP isL
 simp only [initL, Nat.reduceAdd]
 simp -implicitDefEqProofs (disch := omega) only [↓reduceIte, go_sem, reduceToNat, reduceAdd, reduceLeDiff, reduceEqDiff, reduceSub, reduceMul, reduceCtorEq]
 refine ifD (fun c => ?_) (fun c => ?_)
 ·simp -implicitDefEqProofs (disch := omega) only [↓reduceIte, go_sem, reduceToNat, reduceAdd, reduceLeDiff, reduceEqDiff, reduceSub, reduceMul, reduceCtorEq]
  refine ⟨?_, rfl⟩
  congr 2
  simp
  omega
 ·simp -implicitDefEqProofs (disch := omega) only [↓reduceIte, go_sem, reduceToNat, reduceAdd, reduceLeDiff, reduceEqDiff, reduceSub, reduceMul, reduceCtorEq]
  refine ⟨?_, rfl⟩
  congr 2
  simp
  omega
theorem C13 (f : Fnc) (u : List Int) (ins outs : List (List Bool)) (n b : Nat) (s : List Bool) (hb : ins[b]? = some s) (hn : s.length = n) (hu : u.length = n) (hm : n < 1000000) : Ctr Tryz.prog 13 [lvP f u ins outs, .int .i64 (b : Int)] [] (ret [.sl ((listL u s).map encN)]) := by
 have hi := C40 f u ins outs b
 have hlt := (List.getElem?_eq_some_iff.1 hb).1
 rw [show isL ins b = true by simp [isL]; omega] at hi
 have hl := C38 f u ins outs n s hn hu hm
 have htk : ((listL u s).map encN).take (listL u s).length = (listL u s).map encN := List.take_of_length_le (by simp)
 generalize listL u s = R at hl htk ⊢
 apply ctr_b A13_ok rfl (Nat.le_of_ble_eq_true rfl)
 unfold A13
 unfold lvP at hi hl ⊢
 simp only [initL, Nat.reduceAdd]
 simp -implicitDefEqProofs (disch := omega) only [↓reduceIte, go_sem, reduceToNat, reduceAdd, reduceLeDiff, reduceEqDiff, reduceSub, reduceMul, reduceCtorEq]
 refine callL hi ?_
 simp -implicitDefEqProofs (disch := omega) only [↓reduceIte, go_sem, reduceToNat, reduceAdd, reduceLeDiff, reduceEqDiff, reduceSub, reduceMul, reduceCtorEq, hb, encSet, setP, hn]
 refine callD hl ?_
 simp -implicitDefEqProofs (disch := omega) only [↓reduceIte, go_sem, reduceToNat, reduceAdd, reduceLeDiff, reduceEqDiff, reduceSub, reduceMul, reduceCtorEq]
 exact ⟨rfl, rfl⟩
theorem C15 (f : Fnc) (u : List Int) (ins outs : List (List Bool)) (n b : Nat) (s : List Bool) (hb : outs[b]? = some s) (hil : b < ins.length) (hn : s.length = n) (hu : u.length = n) (hm : n < 1000000) : Ctr Tryz.prog 15 [lvP f u ins outs, .int .i64 (b : Int)] [] (ret [.sl ((listL u s).map encN)]) := by
 have hi := C40 f u ins outs b
 rw [show isL ins b = true by simp [isL]; omega] at hi
 have hl := C38 f u ins outs n s hn hu hm
 have htk : ((listL u s).map encN).take (listL u s).length = (listL u s).map encN := List.take_of_length_le (by simp)
 generalize listL u s = R at hl htk ⊢
 apply ctr_b A15_ok rfl (Nat.le_of_ble_eq_true rfl)
 unfold A15
 unfold lvP at hi hl ⊢
 simp only [initL, Nat.reduceAdd]
 simp -implicitDefEqProofs (disch := omega) only [↓reduceIte, go_sem, reduceToNat, reduceAdd, reduceLeDiff, reduceEqDiff, reduceSub, reduceMul, reduceCtorEq]
 refine callL hi ?_
 simp -implicitDefEqProofs (disch := omega) only [↓reduceIte, go_sem, reduceToNat, reduceAdd, reduceLeDiff, reduceEqDiff, reduceSub, reduceMul, reduceCtorEq, hb, encSet, setP, hn]
 refine callD hl ?_
 simp -implicitDefEqProofs (disch := omega) only [↓reduceIte, go_sem, reduceToNat, reduceAdd, reduceLeDiff, reduceEqDiff, reduceSub, reduceMul, reduceCtorEq]
 exact ⟨rfl, rfl⟩
def blk0 : Blk := ⟨.empty, false, [], []⟩
def ins0 : Ins := ⟨0, ⟨0, 0, 0, 0⟩, [], .empty, 0, [], []⟩
/-- What live.New gives is of one size, and short. -/
structure LvOk (f : Fnc) (u : List Int) (ins outs : List (List Bool)) : Prop where
 pt : PtOk f.blocks
 srt : Srt u
 ul : u.length < 1000000
 il : ins.length = f.blocks.length
 ol : outs.length = f.blocks.length
 is : ∀ s ∈ ins, s.length = u.length
 os : ∀ s ∈ outs, s.length = u.length
 ar : ∀ B ∈ f.blocks, ∀ x ∈ B.code, x.args.length ≤ 9223372036854775807
 cl : ∀ B ∈ f.blocks, B.code.length < 1000000
def defS (u : List Int) (x : Ins) (s : List Bool) : List Bool := if x.dst.kind = 1 then addS s (placeL u x.dst.n) else s
theorem defS_len {u : List Int} {s : List Bool} {x : Ins} : (defS u x s).length = s.length := by unfold defS; split <;> simp [addS_len]
/-- What is present ahead of instruction i of block b (odd = false), and behind it. -/
def atS (f : Fnc) (u : List Int) (outs : List (List Bool)) (b i : Nat) (odd : Bool) : List Bool :=
 if odd = true then defS u ((f.blocks.getD b blk0).code.getD i ins0) (backS u ((f.blocks.getD b blk0).code.drop (i + 1)) (outs.getD b [])) else backS u ((f.blocks.getD b blk0).code.drop i) (outs.getD b [])
def atO (f : Fnc) (u : List Int) (outs : List (List Bool)) (p : Int) : Option (List Bool) :=
 if blockP f.blocks p < 0 then none else some (atS f u outs (whereP f.blocks (p / 2)).1.toNat (whereP f.blocks (p / 2)).2.toNat (p % 2 == 1))
def setA (n : Nat) (s : List Bool) : AV := .rp [.int .i64 (n : Int), .sl (encWs s)]
def optV (n : Nat) : Option (List Bool) → AV
 | none => .nilp
 | some s => setA n s
theorem atS_len {f : Fnc} {u : List Int} {ins outs : List (List Bool)} (h : LvOk f u ins outs) {b i : Nat} (hb : b < f.blocks.length) {o : Bool} : (atS f u outs b i o).length = u.length := by
 have hs : (outs.getD b []).length = u.length := by
  have hlt : b < outs.length := by rw [h.ol]; exact hb
  rw [List.getD_eq_getElem?_getD, List.getElem?_eq_getElem hlt]
  exact h.os _ (List.getElem_mem hlt)
 unfold atS
 split
 ·rw [defS_len, backS_len, hs]
 ·rw [backS_len, hs]
/-- The block of a point, and where in it. -/
theorem blockP_in {bs : List Blk} {p : Int} (h : ¬ blockP bs p < 0) : 0 ≤ p ∧ p / 2 < sumTo bs bs.length ∧ blockP bs p = (whB bs (p / 2) : Int) ∧ whereP bs (p / 2) = ((whB bs (p / 2) : Int), p / 2 - (sumTo bs (whB bs (p / 2)) : Int)) := by
 unfold blockP at h ⊢
 have hp : ¬ p < 0 := fun c => h (by rw [if_pos c]; omega)
 rw [if_neg hp] at h ⊢
 have h2 : ¬ (0 ≤ (whereP bs (p / 2)).1 ∧ p % 2 = 1 ∧ behindP bs (whereP bs (p / 2)).1 (whereP bs (p / 2)).2 < 0) := fun c => h (by rw [if_pos c]; omega)
 rw [if_neg h2] at h ⊢
 have hw : whereP bs (p / 2) = ((whB bs (p / 2) : Int), p / 2 - (sumTo bs (whB bs (p / 2)) : Int)) := by
  unfold whereP at h ⊢
  by_cases c : p / 2 < 0 ∨ (sumTo bs bs.length : Int) ≤ p / 2
  ·rw [if_pos c] at h
   omega
  ·rw [if_neg c]
 refine ⟨by omega, ?_, by rw [hw], hw⟩
 apply Int.lt_of_not_ge
 intro c
 apply h
 unfold whereP
 rw [if_pos (Or.inr c)]
 omega
theorem blockP_at {bs : List Blk} (hk : PtOk bs) {p : Int} (h : ¬ blockP bs p < 0) : ∃ b i : Nat, ∃ B, bs[b]? = some B ∧ i < B.code.length ∧ blockP bs p = (b : Int) ∧ whereP bs (p / 2) = ((b : Int), (i : Int)) ∧ 0 ≤ p ∧ p < 2000000000 := by
 have ⟨h0, h1, h2, h3⟩ := blockP_in h
 have ⟨_, w1, w2, w3⟩ := whB_spec (bs := bs) (n := p / 2) (by omega) h1
 have hB := List.getElem?_eq_getElem w1
 have hsu := sumTo_succ hB
 have hsm := hk.sum
 refine ⟨whB bs (p / 2), (p / 2 - (sumTo bs (whB bs (p / 2)) : Int)).toNat, _, hB, by omega, h2, ?_, h0, by omega⟩
 rw [h3]
 congr 1
 omega
theorem C37 (f : Fnc) (u : List Int) (ins outs : List (List Bool)) (p : Int) (h : LvOk f u ins outs) (hp : p < 9223372036854775808) :
  Ctr Tryz.prog 37 [lvP f u ins outs, .int .i64 p] [] (ret [optV u.length (atO f u outs p)]) := by
 have hb := C63 f.blocks h.pt p hp
 have hw := C64 f.blocks h.pt (p / 2)
 by_cases hc : blockP f.blocks p < 0
 ·have e : atO f u outs p = none := by rw [atO, if_pos hc]
  rw [e]
  simp only [optV]
  generalize blockP f.blocks p = q at hb hc
  apply ctr_b A37_ok rfl (Nat.le_of_ble_eq_true rfl)
  unfold A37 lvP
  have ⟨PT, ePT⟩ : ∃ PT, ptP f.blocks = .rp PT := ⟨_, rfl⟩
  rw [ePT] at hb ⊢
  simp only [initL, Nat.reduceAdd]
  simp -implicitDefEqProofs (disch := omega) only [↓reduceIte, go_sem, reduceToNat, reduceAdd, reduceLeDiff, reduceEqDiff, reduceSub, reduceMul, reduceCtorEq]
  refine callL hb ?_
  simp -implicitDefEqProofs (disch := omega) only [↓reduceIte, go_sem, reduceToNat, reduceAdd, reduceLeDiff, reduceEqDiff, reduceSub, reduceMul, reduceCtorEq]
  exact ⟨rfl, rfl⟩
 ·have ⟨b, i, B, hB, hi, e1, e2, hp0, hp1⟩ := blockP_at h.pt hc
  have hbl := (List.getElem?_eq_some_iff.1 hB).1
  have ho : outs[b]? = some (outs.getD b []) := by
   rw [List.getElem?_eq_getElem (by rw [h.ol]; exact hbl), List.getD_eq_getElem?_getD, List.getElem?_eq_getElem (by rw [h.ol]; exact hbl)]
   rfl
  have hsl : (outs.getD b []).length = u.length := h.os _ (List.mem_of_getElem? ho)
  have hbm := List.mem_of_getElem? hB
  have hx := List.getElem?_eq_getElem hi
  have eB : f.blocks.getD b blk0 = B := by rw [List.getD_eq_getElem?_getD, hB]; rfl
  have ex : B.code.getD i ins0 = B.code[i] := by rw [List.getD_eq_getElem?_getD, hx]; rfl
  have e3 : atO f u outs p = some (atS f u outs b i (p % 2 == 1)) := by rw [atO, if_neg hc, e2]; rfl
  have hll := h.cl B hbm
  have hul := h.ul
  have u1 := fun k (hk : k ≤ B.code.length) => C36 f u ins outs u.length b k B _ h.srt h.ul hsl (by omega) hB ho hk (h.ar B hbm) hll
  have u2 := u1 i (by omega)
  have u3 := u1 (i + 1) (by omega)
  have hbk1 : (backS u (B.code.drop (i + 1)) (outs.getD b [])).length = u.length := by rw [backS_len, hsl]
  have hpl := C43 f u ins outs B.code[i].dst.n h.srt h.ul
  have had := addVN (v := 1) (i := placeL u B.code[i].dst.n) hbk1 (by omega)
  rw [e3]
  unfold atS
  rw [eB, ex]
  rw [e1] at hb
  rw [e2] at hw
  generalize B.code[i] = x at hx hpl had ⊢
  have ht : p.tdiv 2 = p / 2 := Int.tdiv_eq_ediv_of_nonneg (by omega)
  have ht2 : IntKind.i64.wrap (p / 2) = p / 2 := wrap64 (by omega) (by omega)
  have ht3 : p.tmod 2 = p % 2 := Int.tmod_eq_emod_of_nonneg (by omega)
  have ht4 : IntKind.i64.wrap ((i : Int) + 1) = ((i + 1 : Nat) : Int) := by rw [wrap64 (by omega) (by omega)]; omega
  have tk : ∀ s : List Bool, s.length = u.length → (encWs s).take (nw u.length) = encWs s := fun s e => by rw [← e]; exact encWs_take s
  have tk0 := tk (backS u (B.code.drop i) (outs.getD b [])) (by rw [backS_len, hsl])
  have tk1 := tk (defS u x (backS u (B.code.drop (i + 1)) (outs.getD b []))) (by rw [defS_len, backS_len, hsl])
  have hd1 : x.dst.kind = 1 → addS (backS u (B.code.drop (i + 1)) (outs.getD b [])) (placeL u x.dst.n) = defS u x (backS u (B.code.drop (i + 1)) (outs.getD b [])) := fun e => by rw [defS, if_pos e]
  have hd2 : ¬ x.dst.kind = 1 → backS u (B.code.drop (i + 1)) (outs.getD b []) = defS u x (backS u (B.code.drop (i + 1)) (outs.getD b [])) := fun e => by rw [defS, if_neg e]
  unfold setN at u2 u3 had
  generalize u.length = n at u2 u3 had tk0 tk1 ⊢
  generalize defS u x (backS u (B.code.drop (i + 1)) (outs.getD b [])) = t at hd1 hd2 tk1 ⊢
  generalize backS u (B.code.drop (i + 1)) (outs.getD b []) = t1 at hd1 hd2 u3 had ⊢
  generalize backS u (B.code.drop i) (outs.getD b []) = t0 at u2 tk0 ⊢
  generalize placeL u x.dst.n = pl at hd1 had hpl
  apply ctr_b A37_ok rfl (Nat.le_of_ble_eq_true rfl)
  unfold A37
  unfold lvP at u2 u3 hpl ⊢
  have ⟨PT, ePT⟩ : ∃ PT, ptP f.blocks = .rp PT := ⟨_, rfl⟩
  rw [ePT] at hb hw u2 u3 hpl ⊢
  simp only [initL, Nat.reduceAdd]
  simp -implicitDefEqProofs (disch := omega) only [↓reduceIte, go_sem, reduceToNat, reduceAdd, reduceLeDiff, reduceEqDiff, reduceSub, reduceMul, reduceCtorEq]
  refine callL hb ?_
  simp -implicitDefEqProofs (disch := omega) only [↓reduceIte, go_sem, reduceToNat, reduceAdd, reduceLeDiff, reduceEqDiff, reduceSub, reduceMul, reduceCtorEq, ht, ht2, ht3]
  refine callL hw ?_
  simp -implicitDefEqProofs (disch := omega) only [↓reduceIte, go_sem, reduceToNat, reduceAdd, reduceLeDiff, reduceEqDiff, reduceSub, reduceMul, reduceCtorEq, ht, ht2, ht3]
  refine ifE (fun e => ?_) (fun e => ?_)
  ·simp -implicitDefEqProofs (disch := omega) only [↓reduceIte, go_sem, reduceToNat, reduceAdd, reduceLeDiff, reduceEqDiff, reduceSub, reduceMul, reduceCtorEq]
   refine callD u2 ?_
   simp -implicitDefEqProofs (disch := omega) only [↓reduceIte, go_sem, reduceToNat, reduceAdd, reduceLeDiff, reduceEqDiff, reduceSub, reduceMul, reduceCtorEq, tk0]
   have he : (p % 2 == 1) = false := by simp; omega
   exact ⟨by rw [he]; rfl, rfl⟩
  ·simp -implicitDefEqProofs (disch := omega) only [↓reduceIte, go_sem, reduceToNat, reduceAdd, reduceLeDiff, reduceEqDiff, reduceSub, reduceMul, reduceCtorEq, ht4]
   refine callD u3 ?_
   simp -implicitDefEqProofs (disch := omega) only [↓reduceIte, go_sem, reduceToNat, reduceAdd, reduceLeDiff, reduceEqDiff, reduceSub, reduceMul, reduceCtorEq, hB, encBk, hx, encIn]
   have he : (p % 2 == 1) = true := by simp; omega
   refine ifE (fun e4 => ?_) (fun e4 => ?_)
   ·simp -implicitDefEqProofs (disch := omega) only [↓reduceIte, go_sem, reduceToNat, reduceAdd, reduceLeDiff, reduceEqDiff, reduceSub, reduceMul, reduceCtorEq]
    refine callL hpl ?_
    simp -implicitDefEqProofs (disch := omega) only [↓reduceIte, go_sem, reduceToNat, reduceAdd, reduceLeDiff, reduceEqDiff, reduceSub, reduceMul, reduceCtorEq]
    refine callD had ?_
    simp -implicitDefEqProofs (disch := omega) only [↓reduceIte, go_sem, reduceToNat, reduceAdd, reduceLeDiff, reduceEqDiff, reduceSub, reduceMul, reduceCtorEq]
    rw [hd1 e4]
    simp -implicitDefEqProofs (disch := omega) only [↓reduceIte, go_sem, reduceToNat, reduceAdd, reduceLeDiff, reduceEqDiff, reduceSub, reduceMul, reduceCtorEq, tk1]
    exact ⟨by rw [he]; rfl, rfl⟩
   ·rw [hd2 e4]
    simp -implicitDefEqProofs (disch := omega) only [↓reduceIte, go_sem, reduceToNat, reduceAdd, reduceLeDiff, reduceEqDiff, reduceSub, reduceMul, reduceCtorEq, tk1]
    exact ⟨by rw [he]; rfl, rfl⟩
theorem atO_len {f : Fnc} {u : List Int} {ins outs : List (List Bool)} (h : LvOk f u ins outs) {p : Int} {s : List Bool} (e : atO f u outs p = some s) : s.length = u.length := by
 unfold atO at e
 split at e
 ·cases e
 ·rename_i hc
  have ⟨b, i, B, hB, _, _, e2, _⟩ := blockP_at h.pt hc
  rw [e2] at e
  rw [← Option.some.inj e]
  exact atS_len h (List.getElem?_eq_some_iff.1 hB).1
def presL (f : Fnc) (u : List Int) (outs : List (List Bool)) (p : Int) : List Int := match atO f u outs p with
 | none => []
 | some s => listL u s
theorem presL_le {f : Fnc} {u : List Int} {ins outs : List (List Bool)} (h : LvOk f u ins outs) {p : Int} : (presL f u outs p).length ≤ u.length := by
 unfold presL
 split
 ·exact Nat.zero_le _
 ·rename_i s e
  have := listL_le (u := u) (s := s)
  rw [atO_len h e] at this
  exact this
theorem C9 (f : Fnc) (u : List Int) (ins outs : List (List Bool)) (p : Int) (h : LvOk f u ins outs) (hp : p < 9223372036854775808) :
  Ctr Tryz.prog 9 [lvP f u ins outs, .int .i64 p] [] (ret [.sl ((presL f u outs p).map encN)]) := by
 have ha := C37 f u ins outs p h hp
 unfold presL
 cases e : atO f u outs p with
 | none =>
  rw [e] at ha
  simp only [optV] at ha
  have ⟨L, eL⟩ : ∃ L, lvP f u ins outs = .rp L := ⟨_, rfl⟩
  rw [eL] at ha ⊢
  apply ctr_b A9_ok rfl (Nat.le_of_ble_eq_true rfl)
  unfold A9
  simp only [initL, Nat.reduceAdd]
  simp -implicitDefEqProofs (disch := omega) only [↓reduceIte, go_sem, reduceToNat, reduceAdd, reduceLeDiff, reduceEqDiff, reduceSub, reduceMul, reduceCtorEq]
  refine callL ha ?_
  simp -implicitDefEqProofs (disch := omega) only [↓reduceIte, go_sem, reduceToNat, reduceAdd, reduceLeDiff, reduceEqDiff, reduceSub, reduceMul, reduceCtorEq]
  exact ⟨rfl, rfl⟩
 | some s =>
  have hl := C38 f u ins outs u.length s (atO_len h e) rfl h.ul
  rw [e] at ha
  simp only [optV, setA] at ha
  have htk : ((listL u s).map encN).take (listL u s).length = (listL u s).map encN := List.take_of_length_le (by simp)
  simp only
  generalize listL u s = R at hl htk ⊢
  have ⟨L, eL⟩ : ∃ L, lvP f u ins outs = .rp L := ⟨_, rfl⟩
  rw [eL] at ha hl ⊢
  apply ctr_b A9_ok rfl (Nat.le_of_ble_eq_true rfl)
  unfold A9
  simp only [initL, Nat.reduceAdd]
  simp -implicitDefEqProofs (disch := omega) only [↓reduceIte, go_sem, reduceToNat, reduceAdd, reduceLeDiff, reduceEqDiff, reduceSub, reduceMul, reduceCtorEq]
  refine callL ha ?_
  simp -implicitDefEqProofs (disch := omega) only [↓reduceIte, go_sem, reduceToNat, reduceAdd, reduceLeDiff, reduceEqDiff, reduceSub, reduceMul, reduceCtorEq]
  refine callD hl ?_
  simp -implicitDefEqProofs (disch := omega) only [↓reduceIte, go_sem, reduceToNat, reduceAdd, reduceLeDiff, reduceEqDiff, reduceSub, reduceMul, reduceCtorEq, htk]
  exact ⟨rfl, rfl⟩
def thrS (f : Fnc) (u : List Int) (outs : List (List Bool)) (b i : Nat) : List Bool := dstS u ((f.blocks.getD b blk0).code.getD i ins0) (backS u ((f.blocks.getD b blk0).code.drop (i + 1)) (outs.getD b []))
def thrL (f : Fnc) (u : List Int) (outs : List (List Bool)) (b i : Int) : List Int := if ofP f.blocks b i < 0 then [] else listL u (thrS f u outs b.toNat i.toNat)
theorem C21 (f : Fnc) (u : List Int) (ins outs : List (List Bool)) (b i : Int) (h : LvOk f u ins outs) :
  Ctr Tryz.prog 21 [lvP f u ins outs, .int .i64 b, .int .i64 i] [] (ret [.sl ((thrL f u outs b i).map encN)]) := by
 have his := C40 f u ins outs b
 have hof := C46 f.blocks h.pt b i
 unfold thrL
 by_cases hc : ofP f.blocks b i < 0
 ·rw [if_pos hc]
  generalize ofP f.blocks b i = q at hof hc
  generalize isL ins b = z at his
  apply ctr_b A21_ok rfl (Nat.le_of_ble_eq_true rfl)
  unfold A21
  unfold lvP at his ⊢
  have ⟨PT, ePT⟩ : ∃ PT, ptP f.blocks = .rp PT := ⟨_, rfl⟩
  rw [ePT] at his hof ⊢
  simp only [initL, Nat.reduceAdd]
  simp -implicitDefEqProofs (disch := omega) only [↓reduceIte, go_sem, reduceToNat, reduceAdd, reduceLeDiff, reduceEqDiff, reduceSub, reduceMul, reduceCtorEq]
  refine callL his ?_
  simp -implicitDefEqProofs (disch := omega) only [↓reduceIte, go_sem, reduceToNat, reduceAdd, reduceLeDiff, reduceEqDiff, reduceSub, reduceMul, reduceCtorEq]
  refine ifB (fun c => ?_) (fun c => ?_)
  ·simp -implicitDefEqProofs (disch := omega) only [↓reduceIte, go_sem, reduceToNat, reduceAdd, reduceLeDiff, reduceEqDiff, reduceSub, reduceMul, reduceCtorEq]
   refine callL hof ?_
   simp -implicitDefEqProofs (disch := omega) only [↓reduceIte, go_sem, reduceToNat, reduceAdd, reduceLeDiff, reduceEqDiff, reduceSub, reduceMul, reduceCtorEq]
   exact ⟨rfl, rfl⟩
  ·simp -implicitDefEqProofs (disch := omega) only [↓reduceIte, go_sem, reduceToNat, reduceAdd, reduceLeDiff, reduceEqDiff, reduceSub, reduceMul, reduceCtorEq]
   exact ⟨rfl, rfl⟩
 ·rw [if_neg hc]
  have ho : ofP f.blocks b i = (sumTo f.blocks b.toNat : Int) + i ∧ 0 ≤ i ∧ i < lenP f.blocks b := by
   unfold ofP at hc ⊢
   split
   ·rename_i c
    rw [if_pos c] at hc
    omega
   ·omega
  have hin := lenP_in ho.2.1 ho.2.2
  have ⟨B, hB⟩ : ∃ B, f.blocks[b.toNat]? = some B := ⟨_, List.getElem?_eq_getElem (by omega)⟩
  have hsu := sumTo_succ hB
  have hil : isL ins b = true := by
   simp only [isL, h.il, decide_eq_true_eq]
   omega
  have hi : i.toNat < B.code.length := by omega
  have hbl := (List.getElem?_eq_some_iff.1 hB).1
  have hout : outs[b.toNat]? = some (outs.getD b.toNat []) := by
   rw [List.getElem?_eq_getElem (by rw [h.ol]; exact hbl), List.getD_eq_getElem?_getD, List.getElem?_eq_getElem (by rw [h.ol]; exact hbl)]
   rfl
  have hsl : (outs.getD b.toNat []).length = u.length := h.os _ (List.mem_of_getElem? hout)
  have hbm := List.mem_of_getElem? hB
  have hx := List.getElem?_eq_getElem hi
  have eB : f.blocks.getD b.toNat blk0 = B := by rw [List.getD_eq_getElem?_getD, hB]; rfl
  have ex : B.code.getD i.toNat ins0 = B.code[i.toNat] := by rw [List.getD_eq_getElem?_getD, hx]; rfl
  have hll := h.cl B hbm
  have hul := h.ul
  have u1 := C36 f u ins outs u.length b.toNat (i.toNat + 1) B _ h.srt h.ul hsl (by omega) hB hout hi (h.ar B hbm) hll
  have hb1 : ((b.toNat : Nat) : Int) = b := by omega
  have hi1 : ((i.toNat + 1 : Nat) : Int) = i + 1 := by omega
  rw [hb1, hi1] at u1
  have ht4 : IntKind.i64.wrap (i + 1) = i + 1 := wrap64 (by omega) (by omega)
  have hbk1 : (backS u (B.code.drop (i.toNat + 1)) (outs.getD b.toNat [])).length = u.length := by rw [backS_len, hsl]
  have hpl := C43 f u ins outs B.code[i.toNat].dst.n h.srt h.ul
  have hdr := dropVN (v := 1) (i := placeL u B.code[i.toNat].dst.n) hbk1 (by omega)
  unfold thrS
  rw [eB, ex]
  rw [hil] at his
  generalize B.code[i.toNat] = x at hx hpl hdr ⊢
  have hth : (dstS u x (backS u (B.code.drop (i.toNat + 1)) (outs.getD b.toNat []))).length = u.length := by rw [dstS_len, hbk1]
  have hl := C38 f u ins outs u.length _ hth rfl h.ul
  have hd1 : x.dst.kind = 1 → dropS (backS u (B.code.drop (i.toNat + 1)) (outs.getD b.toNat [])) (placeL u x.dst.n) = dstS u x (backS u (B.code.drop (i.toNat + 1)) (outs.getD b.toNat [])) := fun e => by rw [dstS, if_pos e]
  have hd2 : ¬ x.dst.kind = 1 → backS u (B.code.drop (i.toNat + 1)) (outs.getD b.toNat []) = dstS u x (backS u (B.code.drop (i.toNat + 1)) (outs.getD b.toNat [])) := fun e => by rw [dstS, if_neg e]
  have tk1 : (encWs (dstS u x (backS u (B.code.drop (i.toNat + 1)) (outs.getD b.toNat [])))).take (nw u.length) = encWs (dstS u x (backS u (B.code.drop (i.toNat + 1)) (outs.getD b.toNat []))) := by rw [← hth]; exact encWs_take _
  unfold setN at u1 hdr
  generalize u.length = n at u1 hdr hl tk1
  generalize hgt : dstS u x (backS u (B.code.drop (i.toNat + 1)) (outs.getD b.toNat [])) = t at hd1 hd2 hl tk1 ⊢
  generalize hgt1 : backS u (B.code.drop (i.toNat + 1)) (outs.getD b.toNat []) = t1 at hd1 hd2 u1 hdr
  generalize placeL u x.dst.n = pl at hd1 hdr hpl
  have htk : ((listL u t).map encN).take (listL u t).length = (listL u t).map encN := List.take_of_length_le (by simp)
  generalize listL u t = R at hl htk ⊢
  generalize hq : ofP f.blocks b i = q at hof hc
  apply ctr_b A21_ok rfl (Nat.le_of_ble_eq_true rfl)
  unfold A21
  unfold lvP at u1 his hpl hl ⊢
  have ⟨PT, ePT⟩ : ∃ PT, ptP f.blocks = .rp PT := ⟨_, rfl⟩
  rw [ePT] at his hof u1 hpl hl ⊢
  simp only [initL, Nat.reduceAdd]
  simp -implicitDefEqProofs (disch := omega) only [↓reduceIte, go_sem, reduceToNat, reduceAdd, reduceLeDiff, reduceEqDiff, reduceSub, reduceMul, reduceCtorEq]
  refine callL his ?_
  simp -implicitDefEqProofs (disch := omega) only [↓reduceIte, go_sem, reduceToNat, reduceAdd, reduceLeDiff, reduceEqDiff, reduceSub, reduceMul, reduceCtorEq]
  refine callL hof ?_
  simp -implicitDefEqProofs (disch := omega) only [↓reduceIte, go_sem, reduceToNat, reduceAdd, reduceLeDiff, reduceEqDiff, reduceSub, reduceMul, reduceCtorEq, ht4]
  refine callD u1 ?_
  simp -implicitDefEqProofs (disch := omega) only [↓reduceIte, go_sem, reduceToNat, reduceAdd, reduceLeDiff, reduceEqDiff, reduceSub, reduceMul, reduceCtorEq, hB, encBk, hx, encIn]
  refine ifE (fun e4 => ?_) (fun e4 => ?_)
  ·simp -implicitDefEqProofs (disch := omega) only [↓reduceIte, go_sem, reduceToNat, reduceAdd, reduceLeDiff, reduceEqDiff, reduceSub, reduceMul, reduceCtorEq]
   refine callL hpl ?_
   simp -implicitDefEqProofs (disch := omega) only [↓reduceIte, go_sem, reduceToNat, reduceAdd, reduceLeDiff, reduceEqDiff, reduceSub, reduceMul, reduceCtorEq]
   refine callD hdr ?_
   simp -implicitDefEqProofs (disch := omega) only [↓reduceIte, go_sem, reduceToNat, reduceAdd, reduceLeDiff, reduceEqDiff, reduceSub, reduceMul, reduceCtorEq]
   rw [hd1 e4]
   simp -implicitDefEqProofs (disch := omega) only [↓reduceIte, go_sem, reduceToNat, reduceAdd, reduceLeDiff, reduceEqDiff, reduceSub, reduceMul, reduceCtorEq, tk1]
   refine callD hl ?_
   simp -implicitDefEqProofs (disch := omega) only [↓reduceIte, go_sem, reduceToNat, reduceAdd, reduceLeDiff, reduceEqDiff, reduceSub, reduceMul, reduceCtorEq, htk]
   refine ⟨by simp [encN, scal1], ?_⟩
   simp -implicitDefEqProofs (disch := omega) only [↓reduceIte, go_sem, reduceToNat, reduceAdd, reduceLeDiff, reduceEqDiff, reduceSub, reduceMul, reduceCtorEq, htk]
   exact ⟨rfl, rfl⟩
  ·rw [hd2 e4]
   simp -implicitDefEqProofs (disch := omega) only [↓reduceIte, go_sem, reduceToNat, reduceAdd, reduceLeDiff, reduceEqDiff, reduceSub, reduceMul, reduceCtorEq, tk1]
   refine callD hl ?_
   simp -implicitDefEqProofs (disch := omega) only [↓reduceIte, go_sem, reduceToNat, reduceAdd, reduceLeDiff, reduceEqDiff, reduceSub, reduceMul, reduceCtorEq, htk]
   refine ⟨by simp [encN, scal1], ?_⟩
   simp -implicitDefEqProofs (disch := omega) only [↓reduceIte, go_sem, reduceToNat, reduceAdd, reduceLeDiff, reduceEqDiff, reduceSub, reduceMul, reduceCtorEq, htk]
   exact ⟨rfl, rfl⟩
/- Classes, a value's spans, the most present at once. -/
/-- The class of a value: of the first entry that has its number. -/
def clsO (rs : List Rg) (v : Int) : Option Int := (rs.find? fun r => r.id == v).map fun r => r.cls
theorem find_take {α : Type} {p : α → Bool} {l : List α} {k : Nat} {x : α} (h : ∀ y ∈ l.take k, p y = false) (hx : l[k]? = some x) (hp : p x = true) : l.find? p = some x := by
 induction l generalizing k with
 | nil => cases hx
 | cons a l ih =>
  cases k with
  | zero =>
   rw [List.getElem?_cons_zero] at hx
   rw [Option.some.inj hx, List.find?_cons, hp]
  | succ k =>
   rw [List.getElem?_cons_succ] at hx
   rw [List.take_succ_cons] at h
   rw [List.find?_cons, h a List.mem_cons_self]
   exact ih (fun y hy => h y (List.mem_cons_of_mem _ hy)) hx
theorem C42 (f : Fnc) (v : Int) (hl : f.regs.length < 1000000) : Ctr Tryz.prog 42 [.agg (encFn f), .int .i64 v] [] (ret [.int .i64 ((clsO f.regs v).getD 0), .bool (clsO f.regs v).isSome]) := by
 apply ctr_b A42_ok rfl (Nat.le_of_ble_eq_true rfl)
 unfold A42
 simp only [initL, Nat.reduceAdd]
 simp -implicitDefEqProofs (disch := omega) only [↓reduceIte, go_sem, reduceToNat, reduceAdd, reduceLeDiff, reduceEqDiff, reduceSub, reduceMul, reduceCtorEq, encFn]
 refine loopL (σ := Nat) (fun k => ⟨[(1, .int .i64 v), (9, .sl (f.regs.map encRg)), (10, .int .i64 (f.regs.length : Int)), (11, .int .i64 (k : Int))], []⟩)
  (fun k => k ≤ f.regs.length ∧ ∀ y ∈ f.regs.take k, (y.id == v) = false) (fun k => f.regs.length - k) 0 (by simp -implicitDefEqProofs (disch := omega) only [↓reduceIte, go_sem, reduceToNat, reduceAdd, reduceLeDiff, reduceEqDiff, reduceSub, reduceMul, reduceCtorEq]; rfl) ⟨Nat.zero_le _, fun y hy => by cases hy⟩ ?_
 rintro k ⟨hk, hn⟩
 simp -implicitDefEqProofs (disch := omega) only [↓reduceIte, go_sem, reduceToNat, reduceAdd, reduceLeDiff, reduceEqDiff, reduceSub, reduceMul, reduceCtorEq]
 refine ifD (fun c => ?_) (fun c => ?_)
 ·have hx := List.getElem?_eq_getElem (l := f.regs) (i := k) (by omega)
  generalize f.regs[k] = x at hx
  have hw : IntKind.i64.wrap ((k : Int) + 1) = ((k + 1 : Nat) : Int) := by rw [wrap64 (by omega) (by omega)]; omega
  simp -implicitDefEqProofs (disch := omega) only [↓reduceIte, go_sem, reduceToNat, reduceAdd, reduceLeDiff, reduceEqDiff, reduceSub, reduceMul, reduceCtorEq, hx, encRg]
  refine ifE (fun e => ?_) (fun e => ?_)
  ·simp -implicitDefEqProofs (disch := omega) only [↓reduceIte, go_sem, reduceToNat, reduceAdd, reduceLeDiff, reduceEqDiff, reduceSub, reduceMul, reduceCtorEq]
   have hf : f.regs.find? (fun r => r.id == v) = some x := find_take hn hx (by simpa using e)
   rw [clsO, hf]
   exact ⟨rfl, rfl⟩
  ·simp -implicitDefEqProofs (disch := omega) only [↓reduceIte, go_sem, reduceToNat, reduceAdd, reduceLeDiff, reduceEqDiff, reduceSub, reduceMul, reduceCtorEq, hw]
   refine ⟨k + 1, rfl, ⟨by omega, fun y hy => ?_⟩, by omega⟩
   rw [List.take_add_one, hx] at hy
   rcases List.mem_append.1 hy with hy | hy
   ·exact hn y hy
   ·rw [List.mem_singleton.1 hy]
    simpa using e
 ·simp -implicitDefEqProofs (disch := omega) only [↓reduceIte, go_sem, reduceToNat, reduceAdd, reduceLeDiff, reduceEqDiff, reduceSub, reduceMul, reduceCtorEq]
  have hf : f.regs.find? (fun r => r.id == v) = none := by
   rw [List.find?_eq_none]
   intro y hy
   rw [show k = f.regs.length by omega, List.take_length] at hn
   rw [hn y hy]
   simp
  rw [clsO, hf]
  exact ⟨rfl, rfl⟩
def encSp (x : Int × Int) : List AV := [.int .i64 x.1, .int .i64 x.2]
def setTo (l : List (Int × Int)) (q : Int) : List (Int × Int) := l.set (l.length - 1) ((l.getD (l.length - 1) (0, 0)).1, q)
def stepSp (H : Int → Bool) (st : Bool × List (Int × Int)) (p : Int) : Bool × List (Int × Int) :=
 if H p = true then (true, setTo (if st.1 = true then st.2 else st.2 ++ [(p, p)]) (p + 1)) else (false, st.2)
def spJ (H : Int → Bool) (fr : Int) (l : List (Int × Int)) : Nat → Bool × List (Int × Int)
 | 0 => (false, l)
 | j + 1 => stepSp H (spJ H fr l j) (fr + j)
def spB (H : Int → Bool) (bs : List Blk) : Nat → List (Int × Int)
 | 0 => []
 | b + 1 => (spJ H (spanP bs b).1 (spB H bs b) ((spanP bs b).2 - (spanP bs b).1).toNat).2
def hasP (f : Fnc) (u : List Int) (outs : List (List Bool)) (v : Int) (p : Int) : Bool := match atO f u outs p with
 | none => false
 | some s => hasB s (placeL u v)
theorem setTo_len {l : List (Int × Int)} {q : Int} : (setTo l q).length = l.length := by simp [setTo]
theorem stepSp_len {H : Int → Bool} {st : Bool × List (Int × Int)} {p : Int} : st.2.length ≤ (stepSp H st p).2.length ∧ (stepSp H st p).2.length ≤ st.2.length + 1 := by
 unfold stepSp
 split
 ·simp only [setTo_len]
  split <;> simp
 ·simp
theorem spJ_len {H : Int → Bool} {fr : Int} {l : List (Int × Int)} {j : Nat} : l.length ≤ (spJ H fr l j).2.length ∧ (spJ H fr l j).2.length ≤ l.length + j := by
 induction j with
 | zero => simp [spJ]
 | succ j ih =>
  have := stepSp_len (H := H) (st := spJ H fr l j) (p := fr + j)
  rw [spJ]
  omega
theorem spJ_open {H : Int → Bool} {fr : Int} {l : List (Int × Int)} {j : Nat} (h : (spJ H fr l j).1 = true) : (spJ H fr l j).2 ≠ [] := by
 cases j with
 | zero => cases h
 | succ j =>
  rw [spJ] at h ⊢
  unfold stepSp at h ⊢
  split at h
  ·rename_i c
   rw [if_pos c]
   simp only
   split
   ·rename_i e
    intro hc
    have := spJ_open e
    have hl := congrArg List.length hc
    rw [setTo_len] at hl
    exact this (List.length_eq_zero_iff.1 hl)
   ·intro hc
    have hl := congrArg List.length hc
    rw [setTo_len] at hl
    simp at hl
  ·cases h
theorem spanP_in {bs : List Blk} {b : Nat} (h : b < bs.length) : 0 ≤ (spanP bs b).1 ∧ (spanP bs b).1 ≤ (spanP bs b).2 ∧ (spanP bs b).2 - (spanP bs b).1 ≤ 2 * ((sumTo bs (b + 1) : Int) - sumTo bs b) ∧ (spanP bs b).2 ≤ 2 * (sumTo bs (b + 1) : Int) ∧ (lenP bs b ≠ 0 → (spanP bs b).1 = 2 * (sumTo bs b : Int) ∧ (spanP bs b).2 = 2 * (sumTo bs (b + 1) : Int) - 1) := by
 have hm := sumTo_mono (bs := bs) (a := b) (b := b + 1) (by omega)
 have hl : lenP bs b = (sumTo bs (b + 1) : Int) - (sumTo bs b : Int) := by rw [lenP, if_pos (by omega)]; rfl
 unfold spanP
 split
 ·rename_i c
  simp only
  refine ⟨Int.le_refl _, Int.le_refl _, by omega, by omega, fun h => absurd c h⟩
 ·rename_i c
  have h0 : ofP bs b 0 = (sumTo bs b : Int) := by rw [ofP, if_neg (by omega)]; simp
  have h1 : ofP bs b (lenP bs b - 1) = (sumTo bs b : Int) + (lenP bs b - 1) := by rw [ofP, if_neg (by omega)]; simp
  simp only [aheadP]
  rw [h0, h1, if_neg (by omega), if_neg (by omega)]
  refine ⟨by omega, by omega, by omega, by omega, fun _ => ⟨by omega, by omega⟩⟩
theorem spB_len {H : Int → Bool} {bs : List Blk} {b : Nat} (h : b ≤ bs.length) : (spB H bs b).length ≤ 2 * sumTo bs b := by
 induction b with
 | zero => exact Nat.zero_le _
 | succ b ih =>
  have h1 := ih (by omega)
  have h2 := spanP_in (bs := bs) (b := b) (by omega)
  have h3 := (spJ_len (H := H) (fr := (spanP bs b).1) (l := spB H bs b) (j := ((spanP bs b).2 - (spanP bs b).1).toNat)).2
  rw [spB]
  omega
def spansL (f : Fnc) (u : List Int) (ins outs : List (List Bool)) (v : Int) : List (Int × Int) := if placeL u v < 0 then [] else spB (hasP f u outs v) f.blocks ins.length
theorem C19 (f : Fnc) (u : List Int) (ins outs : List (List Bool)) (v : Int) (h : LvOk f u ins outs) :
  Ctr Tryz.prog 19 [lvP f u ins outs, .int .i64 v] [] (ret [.sl ((spansL f u ins outs v).map encSp)]) := by
 have hpl := C43 f u ins outs v h.srt h.ul
 unfold spansL
 by_cases hc : placeL u v < 0
 ·rw [if_pos hc]
  generalize placeL u v = q at hpl hc
  have ⟨L, eL⟩ : ∃ L, lvP f u ins outs = .rp L := ⟨_, rfl⟩
  rw [eL] at hpl ⊢
  apply ctr_b A19_ok rfl (Nat.le_of_ble_eq_true rfl)
  unfold A19
  simp only [initL, Nat.reduceAdd]
  simp -implicitDefEqProofs (disch := omega) only [↓reduceIte, go_sem, reduceToNat, reduceAdd, reduceLeDiff, reduceEqDiff, reduceSub, reduceMul, reduceCtorEq]
  refine callL hpl ?_
  simp -implicitDefEqProofs (disch := omega) only [↓reduceIte, go_sem, reduceToNat, reduceAdd, reduceLeDiff, reduceEqDiff, reduceSub, reduceMul, reduceCtorEq]
  exact ⟨rfl, rfl⟩
 ·rw [if_neg hc]
  have hat := fun p hp => C37 f u ins outs p h hp
  have hsp := fun b => C44 f.blocks h.pt b
  have hil := h.il
  have hpln := h.pt.len
  have hsum := h.pt.sum
  have hH : ∀ p, hasP f u outs v p = true ∨ hasP f u outs v p = false := fun p => by cases hasP f u outs v p <;> simp
  have hcall : ∀ p, Ctr Tryz.prog 45 [optV u.length (atO f u outs p), .int .i64 (placeL u v)] [] (ret [.bool (hasP f u outs v p)]) := by
   intro p
   unfold hasP
   cases e : atO f u outs p with
   | none => exact C45_nil _
   | some s =>
    have hl := atO_len h e
    have := C45 s (placeL u v) (by have := h.ul; omega)
    rw [hl] at this
    exact this
  have hop : ∀ p, ∃ z, optV u.length (atO f u outs p) = z ∧ (z = .nilp ∨ ∃ c, z = .rp c) := fun p => by
   cases atO f u outs p with
   | none => exact ⟨_, rfl, Or.inl rfl⟩
   | some s => exact ⟨_, rfl, Or.inr ⟨_, rfl⟩⟩
  apply ctr_b A19_ok rfl (Nat.le_of_ble_eq_true rfl)
  unfold A19
  unfold lvP at hpl hat ⊢
  have ⟨PT, ePT⟩ : ∃ PT, ptP f.blocks = .rp PT := ⟨_, rfl⟩
  rw [ePT] at hpl hat hsp ⊢
  generalize hgH : hasP f u outs v = H at hcall hH ⊢
  generalize placeL u v = pl at hpl hc hcall
  simp only [initL, Nat.reduceAdd]
  simp -implicitDefEqProofs (disch := omega) only [↓reduceIte, go_sem, reduceToNat, reduceAdd, reduceLeDiff, reduceEqDiff, reduceSub, reduceMul, reduceCtorEq]
  refine callL hpl ?_
  simp -implicitDefEqProofs (disch := omega) only [↓reduceIte, go_sem, reduceToNat, reduceAdd, reduceLeDiff, reduceEqDiff, reduceSub, reduceMul, reduceCtorEq]
  refine loopL (σ := Nat) (fun b => ⟨[(0, .rp [.bool f.machine, .str f.name, .sl (f.regs.map encRg), .sl (f.params.map encO), .sl (f.blocks.map encBk), .rp PT, .sl (u.map encN), .sl (ins.map encSet), .sl (outs.map encSet)]), (1, .int .i64 v), (5, .hs 5 (spB H f.blocks b).length 0 (spB H f.blocks b).length), (23, .int .i64 (ins.length : Int)), (24, .int .i64 (b : Int))],
    [(5, .arr (spB H f.blocks b).length 2 ((spB H f.blocks b).map encSp))]⟩) (fun b => b ≤ ins.length) (fun b => ins.length - b) 0 (by simp -implicitDefEqProofs (disch := omega) only [↓reduceIte, go_sem, reduceToNat, reduceAdd, reduceLeDiff, reduceEqDiff, reduceSub, reduceMul, reduceCtorEq]; rfl) (Nat.zero_le _) ?_
  intro b hb
  simp -implicitDefEqProofs (disch := omega) only [↓reduceIte, go_sem, reduceToNat, reduceAdd, reduceLeDiff, reduceEqDiff, reduceSub, reduceMul, reduceCtorEq]
  refine ifD (fun c => ?_) (fun c => ?_)
  ·have hspb := hsp (b : Int)
   have hin := spanP_in (bs := f.blocks) (b := b) (by omega)
   have hlen := spB_len (H := H) (bs := f.blocks) (b := b) (by omega)
   have hmx := sumTo_max (bs := f.blocks) (b := b + 1)
   have hmx2 := sumTo_max (bs := f.blocks) (b := b)
   have hnx : spB H f.blocks (b + 1) = (spJ H (spanP f.blocks b).1 (spB H f.blocks b) ((spanP f.blocks b).2 - (spanP f.blocks b).1).toNat).2 := rfl
   generalize spB H f.blocks b = l at hlen hnx ⊢
   generalize (spanP f.blocks b).1 = fr at hspb hin hnx
   generalize (spanP f.blocks b).2 = to at hspb hin hnx
   simp -implicitDefEqProofs (disch := omega) only [↓reduceIte, go_sem, reduceToNat, reduceAdd, reduceLeDiff, reduceEqDiff, reduceSub, reduceMul, reduceCtorEq]
   refine callL hspb ?_
   simp -implicitDefEqProofs (disch := omega) only [↓reduceIte, go_sem, reduceToNat, reduceAdd, reduceLeDiff, reduceEqDiff, reduceSub, reduceMul, reduceCtorEq]
   refine loopL (σ := Nat) (fun j => ⟨[(0, .rp [.bool f.machine, .str f.name, .sl (f.regs.map encRg), .sl (f.params.map encO), .sl (f.blocks.map encBk), .rp PT, .sl (u.map encN), .sl (ins.map encSet), .sl (outs.map encSet)]), (1, .int .i64 v), (5, .hs 5 (spJ H fr l j).2.length 0 (spJ H fr l j).2.length), (8, .int .i64 to), (9, .bool (spJ H fr l j).1), (10, .int .i64 (fr + j)), (23, .int .i64 (ins.length : Int)), (24, .int .i64 (b : Int))],
    [(5, .arr (spJ H fr l j).2.length 2 ((spJ H fr l j).2.map encSp))]⟩) (fun j => j ≤ (to - fr).toNat) (fun j => (to - fr).toNat - j) 0 (by simp -implicitDefEqProofs (disch := omega) only [↓reduceIte, go_sem, reduceToNat, reduceAdd, reduceLeDiff, reduceEqDiff, reduceSub, reduceMul, reduceCtorEq]; simp [spJ]) (Nat.zero_le _) ?_
   intro j hj
   have hjl := spJ_len (H := H) (fr := fr) (l := l) (j := j)
   have hjo := spJ_open (H := H) (fr := fr) (l := l) (j := j)
   have hjn : spJ H fr l (j + 1) = stepSp H (spJ H fr l j) (fr + j) := rfl
   generalize hst0 : spJ H fr l j = st at hjl hjo hjn ⊢
   simp -implicitDefEqProofs (disch := omega) only [↓reduceIte, go_sem, reduceToNat, reduceAdd, reduceLeDiff, reduceEqDiff, reduceSub, reduceMul, reduceCtorEq]
   refine ifD (fun c2 => ?_) (fun c2 => ?_)
   ·have ⟨z, ez, hz⟩ := hop (fr + j)
    have hatp := hat (fr + j) (by omega)
    have hcp := hcall (fr + j)
    have hHp := hH (fr + j)
    rw [ez] at hatp hcp
    have hw1 : IntKind.i64.wrap (fr + (j : Int) + 1) = fr + ((j + 1 : Nat) : Int) := by rw [wrap64 (by omega) (by omega)]; omega
    have hcap : (((st.2.length + 1 : Nat) : Int)) * ((16 : Nat) : Int) ≤ 70368744177664 := by omega
    have hst : stepSp H st (fr + j) = if H (fr + j) = true then (true, setTo (if st.1 = true then st.2 else st.2 ++ [(fr + j, fr + j)]) (fr + j + 1)) else (false, st.2) := rfl
    rw [hst] at hjn
    generalize H (fr + j) = hb at hcp hjn
    rw [show fr + (j : Int) + 1 = fr + ((j + 1 : Nat) : Int) by omega] at hjn
    have hfin : ∀ l' : List (Int × Int), l' ≠ [] → ∃ m, l'.length = m + 1 ∧ (l'.map encSp)[m]? = some [.int .i64 (l'.getD m (0, 0)).1, .int .i64 (l'.getD m (0, 0)).2] ∧ (l'.map encSp).set m [.int .i64 (l'.getD m (0, 0)).1, .int .i64 (fr + ((j + 1 : Nat) : Int))] = (setTo l' (fr + ((j + 1 : Nat) : Int))).map encSp := fun l' hl' => by
     have hp0 := List.length_pos_iff.2 hl'
     refine ⟨l'.length - 1, by omega, ?_, ?_⟩
     ·rw [List.getElem?_map, List.getElem?_eq_getElem (by omega), List.getD_eq_getElem?_getD, List.getElem?_eq_getElem (by omega)]
      rfl
     ·rw [setTo, List.map_set]
      rfl
    rcases hz with hz | ⟨c0, hz⟩
    ·rw [hz] at hatp hcp
     simp -implicitDefEqProofs (disch := omega) only [↓reduceIte, go_sem, reduceToNat, reduceAdd, reduceLeDiff, reduceEqDiff, reduceSub, reduceMul, reduceCtorEq]
     refine callL hatp ?_
     simp -implicitDefEqProofs (disch := omega) only [↓reduceIte, go_sem, reduceToNat, reduceAdd, reduceLeDiff, reduceEqDiff, reduceSub, reduceMul, reduceCtorEq]
     refine callL hpl ?_
     simp -implicitDefEqProofs (disch := omega) only [↓reduceIte, go_sem, reduceToNat, reduceAdd, reduceLeDiff, reduceEqDiff, reduceSub, reduceMul, reduceCtorEq]
     refine callL hcp ?_
     simp -implicitDefEqProofs (disch := omega) only [↓reduceIte, go_sem, reduceToNat, reduceAdd, reduceLeDiff, reduceEqDiff, reduceSub, reduceMul, reduceCtorEq]
     refine ifB (fun e5 => ?_) (fun e5 => ?_)
     ·simp -implicitDefEqProofs (disch := omega) only [↓reduceIte, go_sem, reduceToNat, reduceAdd, reduceLeDiff, reduceEqDiff, reduceSub, reduceMul, reduceCtorEq]
      refine ifB (fun e6 => ?_) (fun e6 => ?_)
      ·have ⟨m, m1, m2, m3⟩ := hfin st.2 (hjo e6)
       have hjn2 : spJ H fr l (j + 1) = (true, setTo st.2 (fr + ((j + 1 : Nat) : Int))) := by rw [hjn, if_pos e5, if_pos e6]
       have i1 : ((m + 1 : Nat) : Int) - 1 = (m : Int) := by omega
       have hsl : (setTo st.2 (fr + ((j + 1 : Nat) : Int))).length = m + 1 := by rw [setTo_len, m1]
       simp -implicitDefEqProofs (disch := omega) only [↓reduceIte, go_sem, reduceToNat, reduceAdd, reduceLeDiff, reduceEqDiff, reduceSub, reduceMul, reduceCtorEq, m1, i1, m2, m3, hw1]
       refine ⟨j + 1, ?_, by omega, by omega⟩
       rw [hjn2]
       simp only [hsl, e6]
      ·have ⟨m, m1, m2, m3⟩ := hfin (st.2 ++ [(fr + j, fr + j)]) (by simp)
       have hjn2 : spJ H fr l (j + 1) = (true, setTo (st.2 ++ [(fr + j, fr + j)]) (fr + ((j + 1 : Nat) : Int))) := by rw [hjn, if_pos e5, if_neg (by simp [e6])]
       have happ : st.2.map encSp ++ [[.int .i64 (fr + j), .int .i64 (fr + j)]] = (st.2 ++ [(fr + j, fr + j)]).map encSp := by simp [encSp]
       have hsl : (setTo (st.2 ++ [(fr + j, fr + j)]) (fr + ((j + 1 : Nat) : Int))).length = m + 1 := by rw [setTo_len, m1]
       have i0 : st.2.length = m := by simp at m1; exact m1
       have i1 : ((m + 1 : Nat) : Int) - 1 = (m : Int) := by omega
       generalize st.2 ++ [(fr + j, fr + j)] = l' at m1 m2 m3 hjn2 happ hsl
       simp -implicitDefEqProofs (disch := omega) only [↓reduceIte, go_sem, reduceToNat, reduceAdd, reduceLeDiff, reduceEqDiff, reduceSub, reduceMul, reduceCtorEq, hcap, i0, i1, happ, m1, m2, m3, hw1]
       refine ⟨j + 1, ?_, by omega, by omega⟩
       rw [hjn2]
       simp only [hsl]
     ·have hjn2 : spJ H fr l (j + 1) = (false, st.2) := by rw [hjn, if_neg (by simp [e5])]
      simp -implicitDefEqProofs (disch := omega) only [↓reduceIte, go_sem, reduceToNat, reduceAdd, reduceLeDiff, reduceEqDiff, reduceSub, reduceMul, reduceCtorEq, hw1]
      refine ⟨j + 1, ?_, by omega, by omega⟩
      rw [hjn2]
    ·rw [hz] at hatp hcp
     simp -implicitDefEqProofs (disch := omega) only [↓reduceIte, go_sem, reduceToNat, reduceAdd, reduceLeDiff, reduceEqDiff, reduceSub, reduceMul, reduceCtorEq]
     refine callL hatp ?_
     simp -implicitDefEqProofs (disch := omega) only [↓reduceIte, go_sem, reduceToNat, reduceAdd, reduceLeDiff, reduceEqDiff, reduceSub, reduceMul, reduceCtorEq]
     refine callL hpl ?_
     simp -implicitDefEqProofs (disch := omega) only [↓reduceIte, go_sem, reduceToNat, reduceAdd, reduceLeDiff, reduceEqDiff, reduceSub, reduceMul, reduceCtorEq]
     refine callL hcp ?_
     simp -implicitDefEqProofs (disch := omega) only [↓reduceIte, go_sem, reduceToNat, reduceAdd, reduceLeDiff, reduceEqDiff, reduceSub, reduceMul, reduceCtorEq]
     refine ifB (fun e5 => ?_) (fun e5 => ?_)
     ·simp -implicitDefEqProofs (disch := omega) only [↓reduceIte, go_sem, reduceToNat, reduceAdd, reduceLeDiff, reduceEqDiff, reduceSub, reduceMul, reduceCtorEq]
      refine ifB (fun e6 => ?_) (fun e6 => ?_)
      ·have ⟨m, m1, m2, m3⟩ := hfin st.2 (hjo e6)
       have hjn2 : spJ H fr l (j + 1) = (true, setTo st.2 (fr + ((j + 1 : Nat) : Int))) := by rw [hjn, if_pos e5, if_pos e6]
       have i1 : ((m + 1 : Nat) : Int) - 1 = (m : Int) := by omega
       have hsl : (setTo st.2 (fr + ((j + 1 : Nat) : Int))).length = m + 1 := by rw [setTo_len, m1]
       simp -implicitDefEqProofs (disch := omega) only [↓reduceIte, go_sem, reduceToNat, reduceAdd, reduceLeDiff, reduceEqDiff, reduceSub, reduceMul, reduceCtorEq, m1, i1, m2, m3, hw1]
       refine ⟨j + 1, ?_, by omega, by omega⟩
       rw [hjn2]
       simp only [hsl, e6]
      ·have ⟨m, m1, m2, m3⟩ := hfin (st.2 ++ [(fr + j, fr + j)]) (by simp)
       have hjn2 : spJ H fr l (j + 1) = (true, setTo (st.2 ++ [(fr + j, fr + j)]) (fr + ((j + 1 : Nat) : Int))) := by rw [hjn, if_pos e5, if_neg (by simp [e6])]
       have happ : st.2.map encSp ++ [[.int .i64 (fr + j), .int .i64 (fr + j)]] = (st.2 ++ [(fr + j, fr + j)]).map encSp := by simp [encSp]
       have hsl : (setTo (st.2 ++ [(fr + j, fr + j)]) (fr + ((j + 1 : Nat) : Int))).length = m + 1 := by rw [setTo_len, m1]
       have i0 : st.2.length = m := by simp at m1; exact m1
       have i1 : ((m + 1 : Nat) : Int) - 1 = (m : Int) := by omega
       generalize st.2 ++ [(fr + j, fr + j)] = l' at m1 m2 m3 hjn2 happ hsl
       simp -implicitDefEqProofs (disch := omega) only [↓reduceIte, go_sem, reduceToNat, reduceAdd, reduceLeDiff, reduceEqDiff, reduceSub, reduceMul, reduceCtorEq, hcap, i0, i1, happ, m1, m2, m3, hw1]
       refine ⟨j + 1, ?_, by omega, by omega⟩
       rw [hjn2]
       simp only [hsl]
     ·have hjn2 : spJ H fr l (j + 1) = (false, st.2) := by rw [hjn, if_neg (by simp [e5])]
      simp -implicitDefEqProofs (disch := omega) only [↓reduceIte, go_sem, reduceToNat, reduceAdd, reduceLeDiff, reduceEqDiff, reduceSub, reduceMul, reduceCtorEq, hw1]
      refine ⟨j + 1, ?_, by omega, by omega⟩
      rw [hjn2]
   ·simp -implicitDefEqProofs (disch := omega) only [↓reduceIte, go_sem, reduceToNat, reduceAdd, reduceLeDiff, reduceEqDiff, reduceSub, reduceMul, reduceCtorEq]
    refine ⟨b + 1, ?_, by omega, by omega⟩
    rw [hnx, ← show j = (to - fr).toNat by omega, hst0]
    simp
  ·simp -implicitDefEqProofs (disch := omega) only [↓reduceIte, go_sem, reduceToNat, reduceAdd, reduceLeDiff, reduceEqDiff, reduceSub, reduceMul, reduceCtorEq]
   have htk : ((spB H f.blocks ins.length).map encSp).take (spB H f.blocks ins.length).length = (spB H f.blocks ins.length).map encSp := List.take_of_length_le (by simp)
   rw [show b = ins.length by omega]
   exact ⟨rfl, rfl⟩
/- The most values of a class that are present at once. -/
def cntL (f : Fnc) (c : Int) (l : List Int) : Nat := (l.filter fun v => (clsO f.regs v).getD 0 == c).length
def mostTo (f : Fnc) (u : List Int) (outs : List (List Bool)) (c : Int) : Nat → Nat
 | 0 => 0
 | k + 1 => max (mostTo f u outs c k) (cntL f c (presL f u outs (k : Int)))
def mostL (f : Fnc) (u : List Int) (outs : List (List Bool)) (c : Int) : Nat := mostTo f u outs c (2 * sumTo f.blocks f.blocks.length)
theorem cntL_succ {f : Fnc} {c : Int} {l : List Int} {k : Nat} {x : Int} (h : l[k]? = some x) : cntL f c (l.take (k + 1)) = if (clsO f.regs x).getD 0 = c then cntL f c (l.take k) + 1 else cntL f c (l.take k) := by
 unfold cntL
 rw [List.take_add_one, h, Option.toList_some, List.filter_append, List.length_append]
 by_cases e : (clsO f.regs x).getD 0 = c
 ·simp [e]
 ·simp [e]
theorem cntL_le {f : Fnc} {c : Int} {l : List Int} {k : Nat} : cntL f c (l.take k) ≤ l.length := by
 unfold cntL
 have h1 := List.length_filter_le (fun v => (clsO f.regs v).getD 0 == c) (l.take k)
 have h2 := List.length_take_le' (i := k) (l := l)
 omega
theorem mostTo_le {f : Fnc} {u : List Int} {ins outs : List (List Bool)} (h : LvOk f u ins outs) {c : Int} {k : Nat} : mostTo f u outs c k ≤ u.length := by
 induction k with
 | zero => exact Nat.zero_le _
 | succ k ih =>
  rw [mostTo]
  have h1 := presL_le h (p := (k : Int))
  have h2 := cntL_le (f := f) (c := c) (l := presL f u outs k) (k := (presL f u outs k).length)
  rw [List.take_length] at h2
  omega
theorem C16 (f : Fnc) (u : List Int) (ins outs : List (List Bool)) (c : Int) (h : LvOk f u ins outs) (hr : f.regs.length < 1000000) :
  Ctr Tryz.prog 16 [lvP f u ins outs, .int .i64 c] [] (ret [.int .i64 (mostL f u outs c : Int)]) := by
 have hcn := C41 f.blocks (by have := h.pt.len; omega)
 have hpr := fun p hp => C9 f u ins outs p h hp
 have hcl := fun v => C42 f v hr
 have hle := fun p => presL_le h (p := p)
 have hml := fun k => mostTo_le h (c := c) (k := k)
 have hul := h.ul
 have hsum := h.pt.sum
 apply ctr_b A16_ok rfl (Nat.le_of_ble_eq_true rfl)
 unfold A16
 unfold lvP at hpr ⊢
 unfold encFn at hcl
 have ⟨PT, ePT⟩ : ∃ PT, ptP f.blocks = .rp PT := ⟨_, rfl⟩
 rw [ePT] at hcn hpr ⊢
 simp only [initL, Nat.reduceAdd]
 unfold mostL
 generalize hT : sumTo f.blocks f.blocks.length = T at hcn hsum ⊢
 have hw0 : IntKind.i64.wrap (2 * (T : Int)) = ((2 * T : Nat) : Int) := by rw [wrap64 (by omega) (by omega)]; omega
 simp -implicitDefEqProofs (disch := omega) only [↓reduceIte, go_sem, reduceToNat, reduceAdd, reduceLeDiff, reduceEqDiff, reduceSub, reduceMul, reduceCtorEq]
 refine callL hcn ?_
 simp -implicitDefEqProofs (disch := omega) only [↓reduceIte, go_sem, reduceToNat, reduceAdd, reduceLeDiff, reduceEqDiff, reduceSub, reduceMul, reduceCtorEq, hw0]
 refine loopL (σ := Nat) (fun k => ⟨[(0, .rp [.bool f.machine, .str f.name, .sl (f.regs.map encRg), .sl (f.params.map encO), .sl (f.blocks.map encBk), .rp PT, .sl (u.map encN), .sl (ins.map encSet), .sl (outs.map encSet)]), (1, .int .i64 c), (5, .int .i64 (mostTo f u outs c k : Int)), (19, .int .i64 ((2 * T : Nat) : Int)), (20, .int .i64 (k : Int))], []⟩)
  (fun k => k ≤ 2 * T) (fun k => 2 * T - k) 0 (by simp -implicitDefEqProofs (disch := omega) only [↓reduceIte, go_sem, reduceToNat, reduceAdd, reduceLeDiff, reduceEqDiff, reduceSub, reduceMul, reduceCtorEq]; simp [mostTo]) (Nat.zero_le _) ?_
 intro k hk
 have hnx : mostTo f u outs c (k + 1) = max (mostTo f u outs c k) (cntL f c (presL f u outs (k : Int))) := rfl
 have hlk := hle (k : Int)
 have hmk := hml k
 simp -implicitDefEqProofs (disch := omega) only [↓reduceIte, go_sem, reduceToNat, reduceAdd, reduceLeDiff, reduceEqDiff, reduceSub, reduceMul, reduceCtorEq]
 refine ifD (fun c1 => ?_) (fun c1 => ?_)
 ·have hp1 := hpr (k : Int) (by omega)
  generalize presL f u outs (k : Int) = l at hp1 hnx hlk
  simp -implicitDefEqProofs (disch := omega) only [↓reduceIte, go_sem, reduceToNat, reduceAdd, reduceLeDiff, reduceEqDiff, reduceSub, reduceMul, reduceCtorEq]
  refine callL hp1 ?_
  simp -implicitDefEqProofs (disch := omega) only [↓reduceIte, go_sem, reduceToNat, reduceAdd, reduceLeDiff, reduceEqDiff, reduceSub, reduceMul, reduceCtorEq]
  refine loopL (σ := Nat) (fun j => ⟨[(0, .rp [.bool f.machine, .str f.name, .sl (f.regs.map encRg), .sl (f.params.map encO), .sl (f.blocks.map encBk), .rp PT, .sl (u.map encN), .sl (ins.map encSet), .sl (outs.map encSet)]), (1, .int .i64 c), (5, .int .i64 (mostTo f u outs c k : Int)), (7, .int .i64 (cntL f c (l.take j) : Int)), (19, .int .i64 ((2 * T : Nat) : Int)), (20, .int .i64 (k : Int)), (25, .sl (l.map encN)), (26, .int .i64 (l.length : Int)), (27, .int .i64 (j : Int))], []⟩)
   (fun j => j ≤ l.length) (fun j => l.length - j) 0 (by simp -implicitDefEqProofs (disch := omega) only [↓reduceIte, go_sem, reduceToNat, reduceAdd, reduceLeDiff, reduceEqDiff, reduceSub, reduceMul, reduceCtorEq]; simp [cntL]) (Nat.zero_le _) ?_
  intro j hj
  simp -implicitDefEqProofs (disch := omega) only [↓reduceIte, go_sem, reduceToNat, reduceAdd, reduceLeDiff, reduceEqDiff, reduceSub, reduceMul, reduceCtorEq]
  refine ifD (fun c2 => ?_) (fun c2 => ?_)
  ·have hx := List.getElem?_eq_getElem (l := l) (i := j) (by omega)
   generalize l[j] = x at hx
   have hcx := hcl x
   have hcs := cntL_succ (f := f) (c := c) hx
   have hcle := cntL_le (f := f) (c := c) (l := l) (k := j)
   generalize clsO f.regs x = z at hcx hcs
   simp -implicitDefEqProofs (disch := omega) only [↓reduceIte, go_sem, reduceToNat, reduceAdd, reduceLeDiff, reduceEqDiff, reduceSub, reduceMul, reduceCtorEq, hx, encN]
   refine callL hcx ?_
   simp -implicitDefEqProofs (disch := omega) only [↓reduceIte, go_sem, reduceToNat, reduceAdd, reduceLeDiff, reduceEqDiff, reduceSub, reduceMul, reduceCtorEq]
   refine ifE (fun e => ?_) (fun e => ?_)
   ·rw [if_pos e] at hcs
    simp -implicitDefEqProofs (disch := omega) only [↓reduceIte, go_sem, reduceToNat, reduceAdd, reduceLeDiff, reduceEqDiff, reduceSub, reduceMul, reduceCtorEq]
    refine ⟨j + 1, ?_, by omega, by omega⟩
    rw [hcs]
    simp
   ·rw [if_neg e] at hcs
    simp -implicitDefEqProofs (disch := omega) only [↓reduceIte, go_sem, reduceToNat, reduceAdd, reduceLeDiff, reduceEqDiff, reduceSub, reduceMul, reduceCtorEq]
    refine ⟨j + 1, ?_, by omega, by omega⟩
    rw [hcs]
    simp
  ·have hjl : j = l.length := by omega
   simp -implicitDefEqProofs (disch := omega) only [↓reduceIte, go_sem, reduceToNat, reduceAdd, reduceLeDiff, reduceEqDiff, reduceSub, reduceMul, reduceCtorEq]
   refine ⟨k + 1, ?_, by omega, by omega⟩
   have hmx : (if (cntL f c (l.take j) : Int) > (mostTo f u outs c k : Int) then (cntL f c (l.take j) : Int) else (mostTo f u outs c k : Int)) = ((mostTo f u outs c (k + 1) : Nat) : Int) := by
    rw [hnx, hjl, List.take_length]
    split <;> omega
   rw [hmx]
   simp
 ·rw [show k = 2 * T by omega]
  simp -implicitDefEqProofs (disch := omega) only [↓reduceIte, go_sem, reduceToNat, reduceAdd, reduceLeDiff, reduceEqDiff, reduceSub, reduceMul, reduceCtorEq]
  exact ⟨rfl, rfl⟩
/- The library's sort and compaction of numbers. -/
def ren189 : Go.Shelf.Ren := ⟨fun | 189 => 28 | 125 => 52 | 257 => 51 | 128 => 82 | 129 => 83 | 294 => 73 | 295 => 74 | 296 => 75 | 297 => 76 | 298 => 77 | 299 => 78 | 216 => 79 | 300 => 80 | 301 => 81 | 328 => 96 | 329 => 97 | 330 => 98 | 331 => 99 | 332 => 100 | 215 => 101 | 343 => 104 | n => n, fun | 28 => 39 | 3 => 3 | 46 => 104 | 0 => 0 | 51 => 133 | 53 => 113 | 4 => 4 | 183 => 126 | 182 => 125 | 131 => 90 | 5 => 5 | 9 => 9 | 218 => 142 | 222 => 146 | 228 => 148 | 229 => 95 | n => n, fun x => x⟩
theorem lays189 : Lays.n189 Tryz.prog ren189 where
 mixed := by kernel_rfl
 f125 := Eq.trans Tryz.func52 (congrArg some (by kernel_rfl))
 f128 := Eq.trans Tryz.func82 (congrArg some (by kernel_rfl))
 f129 := Eq.trans Tryz.func83 (congrArg some (by kernel_rfl))
 f189 := Eq.trans Tryz.func28 (congrArg some (by kernel_rfl))
 f215 := Eq.trans Tryz.func101 (congrArg some (by kernel_rfl))
 f216 := Eq.trans Tryz.func79 (congrArg some (by kernel_rfl))
 f257 := Eq.trans Tryz.func51 (congrArg some (by kernel_rfl))
 f294 := Eq.trans Tryz.func73 (congrArg some (by kernel_rfl))
 f295 := Eq.trans Tryz.func74 (congrArg some (by kernel_rfl))
 f296 := Eq.trans Tryz.func75 (congrArg some (by kernel_rfl))
 f297 := Eq.trans Tryz.func76 (congrArg some (by kernel_rfl))
 f298 := Eq.trans Tryz.func77 (congrArg some (by kernel_rfl))
 f299 := Eq.trans Tryz.func78 (congrArg some (by kernel_rfl))
 f300 := Eq.trans Tryz.func80 (congrArg some (by kernel_rfl))
 f301 := Eq.trans Tryz.func81 (congrArg some (by kernel_rfl))
 f328 := Eq.trans Tryz.func96 (congrArg some (by kernel_rfl))
 f329 := Eq.trans Tryz.func97 (congrArg some (by kernel_rfl))
 f330 := Eq.trans Tryz.func98 (congrArg some (by kernel_rfl))
 f331 := Eq.trans Tryz.func99 (congrArg some (by kernel_rfl))
 f332 := Eq.trans Tryz.func100 (congrArg some (by kernel_rfl))
 f343 := Eq.trans Tryz.func104 (congrArg some (by kernel_rfl))
 t0 := Tryz.underlying0
 a0 := Tryz.isAgg0
 z0 := Tryz.sizeOf0
 v0 := Tryz.zeroValue0
 t3 := Tryz.underlying3
 a3 := Tryz.isAgg3
 z3 := Tryz.sizeOf3
 v3 := Tryz.zeroValue3
 t4 := Tryz.underlying4
 a4 := Tryz.isAgg4
 z4 := Tryz.sizeOf4
 v4 := Tryz.zeroValue4
 t5 := Tryz.underlying5
 a5 := Tryz.isAgg5
 z5 := Tryz.sizeOf5
 v5 := Tryz.zeroValue5
 t9 := Tryz.underlying9
 a9 := Tryz.isAgg9
 z9 := Tryz.sizeOf9
 v9 := Tryz.zeroValue9
 t28 := Tryz.underlying39
 a28 := Tryz.isAgg39
 z28 := Tryz.sizeOf39
 v28 := Tryz.zeroValue39
 t46 := Tryz.underlying104
 a46 := Tryz.isAgg104
 z46 := Tryz.sizeOf104
 v46 := Tryz.zeroValue104
 t51 := Tryz.underlying133
 a51 := Tryz.isAgg133
 z51 := Tryz.sizeOf133
 v51 := Tryz.zeroValue133
 t53 := Tryz.underlying113
 a53 := Tryz.isAgg113
 z53 := Tryz.sizeOf113
 v53 := Tryz.zeroValue113
 t131 := Tryz.underlying90
 a131 := Tryz.isAgg90
 z131 := Tryz.sizeOf90
 v131 := Tryz.zeroValue90
 t182 := Tryz.underlying125
 a182 := Tryz.isAgg125
 z182 := Tryz.sizeOf125
 v182 := Tryz.zeroValue125
 t183 := Tryz.underlying126
 a183 := Tryz.isAgg126
 z183 := Tryz.sizeOf126
 v183 := Tryz.zeroValue126
 t218 := Tryz.underlying142
 a218 := Tryz.isAgg142
 z218 := Tryz.sizeOf142
 v218 := Tryz.zeroValue142
 t222 := Tryz.underlying146
 a222 := Tryz.isAgg146
 z222 := Tryz.sizeOf146
 v222 := Tryz.zeroValue146
 t228 := Tryz.underlying148
 a228 := Tryz.isAgg148
 z228 := Tryz.sizeOf148
 v228 := Tryz.zeroValue148
 t229 := Tryz.underlying95
 a229 := Tryz.isAgg95
 z229 := Tryz.sizeOf95
 v229 := Tryz.zeroValue95
theorem len64_0 : Ctr Tryz.prog 83 [.int .u64 0] [] (ret [.int .i64 0]) := by
 apply ctr_b A83_ok rfl (Nat.le_of_ble_eq_true rfl)
 unfold A83
 simp only [initL, Nat.reduceAdd]
 simp -implicitDefEqProofs (disch := omega) only [↓reduceIte, go_sem, reduceToNat, reduceAdd, reduceLeDiff, reduceEqDiff, reduceSub, reduceMul, reduceCtorEq]
 refine optL (m := (0 : UInt8)) (by kernel_rfl) ?_
 simp -implicitDefEqProofs (disch := omega) only [↓reduceIte, go_sem, reduceToNat, reduceAdd, reduceLeDiff, reduceEqDiff, reduceSub, reduceMul, reduceCtorEq]
 exact ⟨by simp; decide, rfl⟩
theorem wrapU {x : Int} (h0 : 0 ≤ x) (h1 : x < 18446744073709551616) : IntKind.u64.wrap x = x := by
 show x % 2 ^ 64 = x
 omega
theorem len0 : Ctr Tryz.prog 52 [.int .u64 0] [] (ret [.int .i64 0]) := by
 apply ctr_b A52_ok rfl (Nat.le_of_ble_eq_true rfl)
 unfold A52
 simp only [initL, Nat.reduceAdd]
 simp -implicitDefEqProofs (disch := omega) only [↓reduceIte, go_sem, reduceToNat, reduceAdd, reduceLeDiff, reduceEqDiff, reduceSub, reduceMul, reduceCtorEq]
 refine callL len64_0 ?_
 simp -implicitDefEqProofs (disch := omega) only [↓reduceIte, go_sem, reduceToNat, reduceAdd, reduceLeDiff, reduceEqDiff, reduceSub, reduceMul, reduceCtorEq]
 exact ⟨rfl, rfl⟩
theorem insN (v : Nat) : Ctr Tryz.prog 73 [.hs 0 v 0 0, .int .i64 0, .int .i64 0] [.arr v 1 []] (retO [] [.arr v 1 []]) := by
 apply ctr_b A73_ok rfl (Nat.le_of_ble_eq_true rfl)
 unfold A73
 simp only [initL, Nat.reduceAdd]
 simp -implicitDefEqProofs (disch := omega) only [↓reduceIte, go_sem, reduceToNat, reduceAdd, reduceLeDiff, reduceEqDiff, reduceSub, reduceMul, reduceCtorEq]
 refine loopL (σ := Unit) (fun s => ⟨[(0, .hs 0 v 0 0), (1, .int .i64 0), (2, .int .i64 0), (6, .int .i64 1)], [(0, .arr v 1 [])]⟩) (fun s => True) (fun s => 0) () (by simp -implicitDefEqProofs (disch := omega) only [↓reduceIte, go_sem, reduceToNat, reduceAdd, reduceLeDiff, reduceEqDiff, reduceSub, reduceMul, reduceCtorEq]; rfl) trivial ?_
 intro _ _
 simp -implicitDefEqProofs (disch := omega) only [↓reduceIte, go_sem, reduceToNat, reduceAdd, reduceLeDiff, reduceEqDiff, reduceSub, reduceMul, reduceCtorEq]
 exact ⟨rfl, rfl⟩
theorem pdqN (v : Nat) : Ctr Tryz.prog 51 [.hs 0 v 0 0, .int .i64 0, .int .i64 0, .int .i64 0] [.arr v 1 []] (retO [] [.arr v 1 []]) := by
 apply ctr_b A51_ok rfl (Nat.le_of_ble_eq_true rfl)
 unfold A51
 simp only [initL, Nat.reduceAdd]
 simp -implicitDefEqProofs (disch := omega) only [↓reduceIte, go_sem, reduceToNat, reduceAdd, reduceLeDiff, reduceEqDiff, reduceSub, reduceMul, reduceCtorEq]
 refine loopL (σ := Unit) (fun s => ⟨[(0, .hs 0 v 0 0), (1, .int .i64 0), (2, .int .i64 0), (3, .int .i64 0), (8, .bool true), (9, .bool true)], [(0, .arr v 1 [])]⟩) (fun s => True) (fun s => 0) () (by simp -implicitDefEqProofs (disch := omega) only [↓reduceIte, go_sem, reduceToNat, reduceAdd, reduceLeDiff, reduceEqDiff, reduceSub, reduceMul, reduceCtorEq]) trivial ?_
 intro _ _
 simp -implicitDefEqProofs (disch := omega) only [↓reduceIte, go_sem, reduceToNat, reduceAdd, reduceLeDiff, reduceEqDiff, reduceSub, reduceMul, reduceCtorEq]
 refine callO (insN v) ?_
 rintro _ _ ⟨rfl, rfl⟩
 simp -implicitDefEqProofs (disch := omega) only [↓reduceIte, go_sem, reduceToNat, reduceAdd, reduceLeDiff, reduceEqDiff, reduceSub, reduceMul, reduceCtorEq]
 exact ⟨rfl, rfl⟩
theorem sortN (v : Nat) : Ctr Tryz.prog 28 [.hs 0 v 0 0] [.arr v 1 []] (retO [] [.arr v 1 []]) := by
 have h40 := len0
 apply ctr_b A28_ok rfl (Nat.le_of_ble_eq_true rfl)
 unfold A28
 simp only [initL, Nat.reduceAdd]
 simp -implicitDefEqProofs (disch := omega) only [↓reduceIte, go_sem, reduceToNat, reduceAdd, reduceLeDiff, reduceEqDiff, reduceSub, reduceMul, reduceCtorEq, wrapU]
 refine callL h40 ?_
 simp -implicitDefEqProofs (disch := omega) only [↓reduceIte, go_sem, reduceToNat, reduceAdd, reduceLeDiff, reduceEqDiff, reduceSub, reduceMul, reduceCtorEq]
 refine callO (pdqN v) ?_
 rintro _ _ ⟨rfl, rfl⟩
 simp -implicitDefEqProofs (disch := omega) only [↓reduceIte, go_sem, reduceToNat, reduceAdd, reduceLeDiff, reduceEqDiff, reduceSub, reduceMul, reduceCtorEq]
 exact ⟨rfl, rfl⟩
/-- slices.Sort of numbers. -/
theorem sortC (v : Nat) (zs : List Int) (hl : zs.length < 1000000) : Ctr Tryz.prog 28 [.hs 0 v 0 zs.length] [.arr v 1 (zs.map encN)] (retO [] [.arr v 1 ((zs.mergeSort leI).map encN)]) := by
 by_cases h : zs = []
 ·subst h
  have e : ([] : List Int).mergeSort leI = [] := by simp
  rw [e]
  exact sortN v
 ·exact ctr_sort1 (by kernel_rfl) (fun blk off cap zs w h1 h2 h3 => Any.slices_Sort_int lays189 blk off cap zs w h1 h2 h3) v zs h hl
def cpt : List Int → List Int
 | [] => []
 | [x] => [x]
 | x :: y :: l => if x = y then cpt (y :: l) else x :: cpt (y :: l)
theorem cpt_head : ∀ (x : Int) (l : List Int), cpt (x :: l) = x :: (cpt (x :: l)).tail
 | x, [] => rfl
 | x, y :: l => by
  rw [cpt]
  split
  ·rename_i h
   rw [cpt_head y l, h]
   rfl
  ·rfl
theorem cpt_len : ∀ {l : List Int}, (cpt l).length ≤ l.length
 | [] => Nat.le_refl _
 | [x] => Nat.le_refl _
 | x :: y :: l => by
  have := cpt_len (l := y :: l)
  rw [cpt]
  split
  ·simp only [List.length_cons] at this ⊢; omega
  ·simp only [List.length_cons] at this ⊢; omega
theorem drop_bangI {l : List Int} {i : Nat} (h : i < l.length) : l.drop i = l[i]! :: l.drop (i + 1) := by
 rw [List.drop_eq_getElem_cons h]
 simp [h]
theorem cpt_drop {z : List Int} {q : Nat} (h1 : 0 < q) (h2 : q < z.length) : cpt (z.drop (q - 1)) = if z[q - 1]! = z[q]! then cpt (z.drop q) else z[q - 1]! :: cpt (z.drop q) := by
 have e1 := drop_bangI (l := z) (i := q - 1) (by omega)
 have e2 := drop_bangI h2
 rw [show q - 1 + 1 = q by omega] at e1
 rw [e1, e2, cpt]
/-- What the array holds when a list has been compacted: the tail is zero. -/
def cpR (z : List Int) : List (List AV) := (cpt z).map encN ++ List.replicate (z.length - (cpt z).length) [.int .i64 0]
theorem cpR_same {z : List Int} (h : cpt z = z) : cpR z = z.map encN := by rw [cpR, h, Nat.sub_self]; simp
theorem enc_getA {l : List Int} {i : Nat} (h : i < l.length) : Option.map encN l[i]? = some [.int .i64 l[i]!] := by simp [h, encN]
theorem C29 (v : Nat) (z : List Int) (hl : z.length < 1000000) : Ctr Tryz.prog 29 [.hs 0 v 0 z.length] [.arr v 1 (z.map encN)] (retO [.hs 0 v 0 (cpt z).length] [.arr v 1 (cpR z)]) := by
 apply ctr_b A29_ok rfl (Nat.le_of_ble_eq_true rfl)
 unfold A29
 simp only [initL, Nat.reduceAdd]
 simp -implicitDefEqProofs (disch := omega) only [↓reduceIte, go_sem, reduceToNat, reduceAdd, reduceLeDiff, reduceEqDiff, reduceSub, reduceMul, reduceCtorEq]
 refine ifD (fun g => ?_) (fun g => ?_)
 ·have hz : cpt z = z := by
   match z, g with
   | [], _ => rfl
   | [x], _ => rfl
   | x :: y :: l, g => simp at g; omega
  simp -implicitDefEqProofs (disch := omega) only [↓reduceIte, go_sem, reduceToNat, reduceAdd, reduceLeDiff, reduceEqDiff, reduceSub, reduceMul, reduceCtorEq]
  rw [cpR_same hz, hz]
  exact ⟨rfl, rfl⟩
 ·simp -implicitDefEqProofs (disch := omega) only [↓reduceIte, go_sem, reduceToNat, reduceAdd, reduceLeDiff, reduceEqDiff, reduceSub, reduceMul, reduceCtorEq]
  refine loopL (σ := Nat) (fun k => ⟨[(0, .hs 0 v 0 z.length), (3, .int .i64 k)], [(0, .arr v 1 (z.map encN))]⟩)
   (fun k => 1 ≤ k ∧ k ≤ z.length ∧ cpt z = z.take (k - 1) ++ cpt (z.drop (k - 1))) (fun k => z.length - k) 1 (by simp -implicitDefEqProofs (disch := omega) only [↓reduceIte, go_sem, reduceToNat, reduceAdd, reduceLeDiff, reduceEqDiff, reduceSub, reduceMul, reduceCtorEq]; rfl) ⟨Nat.le_refl _, by omega, rfl⟩ ?_
  rintro k ⟨h1, h2, h3⟩
  simp -implicitDefEqProofs (disch := omega) only [↓reduceIte, go_sem, reduceToNat, reduceAdd, reduceLeDiff, reduceEqDiff, reduceSub, reduceMul, reduceCtorEq]
  refine ifD (fun c => ?_) (fun c => ?_)
  ·have hk : k < z.length := by omega
   have hg := enc_getA hk
   have hg2 := enc_getA (show k - 1 < z.length by omega)
   have t1 : ((k : Int) - 1).toNat = k - 1 := by omega
   rw [cpt_drop (by omega) hk] at h3
   have htk : z.take k = z.take (k - 1) ++ [z[k - 1]!] := by
    have : k = (k - 1) + 1 := by omega
    rw [this, List.take_add_one, Nat.add_sub_cancel]
    simp [show k - 1 < z.length by omega]
   simp -implicitDefEqProofs (disch := omega) only [↓reduceIte, go_sem, reduceToNat, reduceAdd, reduceLeDiff, reduceEqDiff, reduceSub, reduceMul, reduceCtorEq, hg, hg2, t1]
   refine accL (by kernel_rfl) ?_
   simp -implicitDefEqProofs (disch := omega) only [↓reduceIte, go_sem, reduceToNat, reduceAdd, reduceLeDiff, reduceEqDiff, reduceSub, reduceMul, reduceCtorEq, hg, hg2, t1]
   refine ifE (fun e => ?_) (fun e => ?_)
   ·rw [if_pos e.symm] at h3
    have h3' : cpt z = z.take k ++ (cpt (z.drop k)).tail := by
     rw [h3, htk, List.append_assoc]
     congr 1
     have := cpt_head z[k]! (z.drop (k + 1))
     rw [← drop_bangI hk] at this
     rw [this, e]
     rfl
    simp -implicitDefEqProofs (disch := omega) only [↓reduceIte, go_sem, reduceToNat, reduceAdd, reduceLeDiff, reduceEqDiff, reduceSub, reduceMul, reduceCtorEq]
    refine loopL (σ := (Nat × Nat) × List Int) (fun s => ⟨[(0, .hs 0 v 0 z.length), (3, .int .i64 s.1.1), (4, .hs 0 v k (z.length - k)), (5, .int .i64 s.1.2)], [(0, .arr v 1 (s.2.map encN))]⟩)
     (fun s => 1 ≤ s.1.2 ∧ k + s.1.2 ≤ z.length ∧ k ≤ s.1.1 ∧ s.1.1 ≤ k + s.1.2 - 1 ∧ s.2.length = z.length ∧ cpt z = s.2.take s.1.1 ++ (cpt (z.drop (k + s.1.2 - 1))).tail ∧ ∀ j, k + s.1.2 - 1 ≤ j → s.2[j]! = z[j]!) (fun s => z.length - s.1.2) ((k, 1), z) (by simp -implicitDefEqProofs (disch := omega) only [↓reduceIte, go_sem, reduceToNat, reduceAdd, reduceLeDiff, reduceEqDiff, reduceSub, reduceMul, reduceCtorEq]; rfl)
     ⟨by simp, by simp only; omega, by simp, by simp, rfl, by simpa using h3', fun j _ => rfl⟩ ?_
    rintro ⟨⟨k1, k2⟩, A⟩ ⟨q1, q2, q3, q4, q5, q6, q7⟩
    simp only at q1 q2 q3 q4 q5 q6 q7
    simp -implicitDefEqProofs (disch := omega) only [↓reduceIte, go_sem, reduceToNat, reduceAdd, reduceLeDiff, reduceEqDiff, reduceSub, reduceMul, reduceCtorEq]
    refine ifD (fun c2 => ?_) (fun c2 => ?_)
    ·have hq : k + k2 < z.length := by omega
     have g1 := enc_getA (l := A) (show k + k2 < A.length by omega)
     have g2 := enc_getA (l := A) (show k + (k2 - 1) < A.length by omega)
     have t2 : ((k2 : Int) - 1).toNat = k2 - 1 := by omega
     rw [cpt_drop (q := k + k2) (by omega) hq] at q6
     have v1 := q7 (k + k2) (by omega)
     have v2 := q7 (k + k2 - 1) (Nat.le_refl _)
     rw [show k + (k2 - 1) = k + k2 - 1 by omega] at g2
     have t3 : k + (k2 - 1) = k + k2 - 1 := by omega
     rw [v1] at g1
     rw [v2] at g2
     have hset : ∀ x : Int, (A.map encN).set k1 [.int .i64 x] = (A.set k1 x).map encN := fun x => by rw [List.map_set]; rfl
     simp -implicitDefEqProofs (disch := omega) only [↓reduceIte, go_sem, reduceToNat, reduceAdd, reduceLeDiff, reduceEqDiff, reduceSub, reduceMul, reduceCtorEq, g1, g2, t2, t3]
     refine accL (by kernel_rfl) ?_
     simp -implicitDefEqProofs (disch := omega) only [↓reduceIte, go_sem, reduceToNat, reduceAdd, reduceLeDiff, reduceEqDiff, reduceSub, reduceMul, reduceCtorEq, g1, g2, t2, t3]
     refine ifE (fun e2 => ?_) (fun e2 => ?_)
     ·rw [if_pos e2.symm] at q6
      simp -implicitDefEqProofs (disch := omega) only [↓reduceIte, go_sem, reduceToNat, reduceAdd, reduceLeDiff, reduceEqDiff, reduceSub, reduceMul, reduceCtorEq]
      exact ⟨((k1, k2 + 1), A), by simp, ⟨by simp, by simp only; omega, q3, by simp only; omega, q5, by simpa using q6, fun j hj => q7 j (by simp only at hj; omega)⟩, by simp only; omega⟩
     ·rw [if_neg (fun h => e2 h.symm)] at q6
      have gk := enc_getA (l := A) (show k1 < A.length by omega)
      simp -implicitDefEqProofs (disch := omega) only [↓reduceIte, go_sem, reduceToNat, reduceAdd, reduceLeDiff, reduceEqDiff, reduceSub, reduceMul, reduceCtorEq, g1, g2, t2, t3, gk, hset]
      refine ⟨((k1 + 1, k2 + 1), A.set k1 z[k + k2]!), by simp, ⟨by simp, by simp only; omega, by simp only; omega, by simp only; omega, by simp only [List.length_set]; exact q5, ?_, fun j hj => ?_⟩, by simp only; omega⟩
      ·have hh := cpt_head z[k + k2]! (z.drop (k + k2 + 1))
       rw [← drop_bangI hq] at hh
       have e5 : (A.set k1 z[k + k2]!).take (k1 + 1) = A.take k1 ++ [z[k + k2]!] := by
        rw [List.take_add_one, List.take_set_of_le (Nat.le_refl _)]
        simp [show k1 < A.length by omega]
       simp only [show k + (k2 + 1) - 1 = k + k2 by omega]
       rw [e5, q6, List.tail_cons, List.append_assoc]
       congr 1
      ·simp only at hj
       have := q7 j (by omega)
       rw [← this]
       by_cases hjl : j < A.length
       ·simp [hjl, List.getElem_set, show k1 ≠ j by omega]
       ·simp [hjl]
    ·have hk2 : k + k2 = z.length := by omega
     have hend : cpt z = A.take k1 := by
      have : z.drop (k + k2 - 1) = [z[k + k2 - 1]!] := by
       rw [drop_bangI (by omega), List.drop_eq_nil_of_le (by omega)]
      rw [q6, this]
      simp [cpt]
     have hlen : (cpt z).length = k1 := by rw [hend, List.length_take]; omega
     simp -implicitDefEqProofs (disch := omega) only [↓reduceIte, go_sem, reduceToNat, reduceAdd, reduceLeDiff, reduceEqDiff, reduceSub, reduceMul, reduceCtorEq]
     have hdr : (A.map encN).drop (k1 + (z.length - k1)) = [] := List.drop_eq_nil_of_le (by simp; omega)
     have hcr : cpR z = (A.map encN).take k1 ++ List.replicate (z.length - k1) [.int .i64 0] := by rw [cpR, hlen, hend, List.map_take]
     rw [hdr, hcr, hlen, List.append_nil]
     exact ⟨rfl, rfl⟩
   ·rw [if_neg (fun h => e h.symm)] at h3
    simp -implicitDefEqProofs (disch := omega) only [↓reduceIte, go_sem, reduceToNat, reduceAdd, reduceLeDiff, reduceEqDiff, reduceSub, reduceMul, reduceCtorEq]
    refine ⟨k + 1, by simp, ⟨by omega, by omega, ?_⟩, by omega⟩
    rw [h3, Nat.add_sub_cancel, htk]
    simp
  ·have hz : cpt z = z := by
    have : z.drop (k - 1) = [z[k - 1]!] := by
     rw [drop_bangI (by omega), List.drop_eq_nil_of_le (by omega)]
    rw [h3, this]
    show z.take (k - 1) ++ [z[k - 1]!] = z
    rw [← this, List.take_append_drop]
   simp -implicitDefEqProofs (disch := omega) only [↓reduceIte, go_sem, reduceToNat, reduceAdd, reduceLeDiff, reduceEqDiff, reduceSub, reduceMul, reduceCtorEq]
   rw [cpR_same hz, hz]
   exact ⟨rfl, rfl⟩
/- The graph's ways out; the sets of live.New in work. -/
theorem gList0 (S P : List (List Nat)) (i : Nat) (r : List Nat) (hi : i < S.length) (hP : S[i]? = some r) (hr : r.length < 1000000) : Ctr Tryz.prog 56 [grP S P, .int .i64 (i : Int), .int .i64 0] [] (ret [.sl (r.map encK)]) := by
 apply ctr_b A56_ok rfl (Nat.le_of_ble_eq_true rfl)
 unfold A56
 simp only [initL, Nat.reduceAdd, grP, encRows]
 have h0 : decide ((i : Int) < 0) = false := decide_eq_false (by omega)
 simp -implicitDefEqProofs (disch := omega) only [↓reduceIte, go_sem, reduceToNat, reduceAdd, reduceLeDiff, reduceEqDiff, reduceSub, reduceMul, reduceCtorEq, h0]
 refine callL (C88 S P) ?_
 have h1 : decide ((i : Int) ≥ (S.length : Int)) = false := decide_eq_false (by omega)
 simp -implicitDefEqProofs (disch := omega) only [↓reduceIte, go_sem, reduceToNat, reduceAdd, reduceLeDiff, reduceEqDiff, reduceSub, reduceMul, reduceCtorEq, h0, h1, hP, encRow]
 refine callL (C89 r hr) ?_
 simp -implicitDefEqProofs (disch := omega) only [↓reduceIte, go_sem, reduceToNat, reduceAdd, reduceLeDiff, reduceEqDiff, reduceSub, reduceMul, reduceCtorEq]
 refine accL (by kernel_rfl) ?_
 simp -implicitDefEqProofs (disch := omega) only [↓reduceIte, go_sem, reduceToNat, reduceAdd, reduceLeDiff, reduceEqDiff, reduceSub, reduceMul, reduceCtorEq]
 exact ⟨rfl, rfl⟩
theorem C34 (S P : List (List Nat)) (i : Nat) (r : List Nat) (hi : i < S.length) (hP : S[i]? = some r) (hr : r.length < 1000000) : Ctr Tryz.prog 34 [grP S P, .int .i64 (i : Int)] [] (ret [.sl (r.map encK)]) := by
 apply ctr_b A34_ok rfl (Nat.le_of_ble_eq_true rfl)
 unfold A34
 simp only [initL, Nat.reduceAdd]
 have hg : isP (grP S P) = true := rfl
 simp -implicitDefEqProofs (disch := omega) only [↓reduceIte, go_sem, reduceToNat, reduceAdd, reduceLeDiff, reduceEqDiff, reduceSub, reduceMul, reduceCtorEq, hg]
 refine callL (gList0 S P i r hi hP hr) ?_
 simp -implicitDefEqProofs (disch := omega) only [↓reduceIte, go_sem, reduceToNat, reduceAdd, reduceLeDiff, reduceEqDiff, reduceSub, reduceMul, reduceCtorEq]
 exact ⟨rfl, rfl⟩
/-- The names of block i's sets: in (box, words), out (box, words). -/
def nmA (i : Nat) : Nat := 2000000 + 4 * i
def bxS (n k : Nat) : Ob := .box [.int .i64 (n : Int), .hs (k + 1) 0 0 (nw n)]
def wdS (s : List Bool) : Ob := .arr 0 1 (encWs s)
def objsL (n : Nat) : Nat → List (List Bool × List Bool) → List (Nat × Ob)
 | _, [] => []
 | i, (a, b) :: r => (nmA i, bxS n (nmA i)) :: (nmA i + 1, wdS a) :: (nmA i + 2, bxS n (nmA i + 2)) :: (nmA i + 3, wdS b) :: objsL n (i + 1) r
def pickS (n k : Nat) (x : List Bool × List Bool) : Ob := if k % 4 = 0 then bxS n k else if k % 4 = 1 then wdS x.1 else if k % 4 = 2 then bxS n k else wdS x.2
theorem optA_objsL {n : Nat} : ∀ {L : List (List Bool × List Bool)} {i k : Nat}, optA (objsL n i L) k = if nmA i ≤ k then (L[(k - 2000000) / 4 - i]?).map (pickS n k) else none
 | [], i, k => by simp [objsL, optA]
 | (a, b) :: r, i, k => by
  have ih := optA_objsL (n := n) (L := r) (i := i + 1) (k := k)
  have hne : ∀ j, j ≠ k → Nat.beq j k = false := fun j h => by
   cases e : Nat.beq j k with
   | true => exact absurd (Nat.eq_of_beq_eq_true e) h
   | false => rfl
  have hz : k / 4 = 500000 + i → (k - 2000000) / 4 - i = 0 := fun h => by omega
  simp only [objsL, optA]
  by_cases h0 : k = nmA i
  ·subst h0
   rw [Nat.beq_refl]
   simp only [cond_true]
   rw [if_pos (Nat.le_refl _), hz (by unfold nmA; omega)]
   simp only [List.getElem?_cons_zero, Option.map_some, pickS]
   rw [if_pos (by unfold nmA; omega)]
  ·rw [hne _ (fun e => h0 e.symm)]
   by_cases h1 : k = nmA i + 1
   ·subst h1
    rw [Nat.beq_refl]
    simp only [cond_true, cond_false]
    rw [if_pos (by omega), hz (by unfold nmA; omega)]
    simp only [List.getElem?_cons_zero, Option.map_some, pickS]
    rw [if_neg (by unfold nmA; omega), if_pos (by unfold nmA; omega)]
   ·rw [hne _ (fun e => h1 e.symm)]
    by_cases h2 : k = nmA i + 2
    ·subst h2
     rw [Nat.beq_refl]
     simp only [cond_true, cond_false]
     rw [if_pos (by omega), hz (by unfold nmA; omega)]
     simp only [List.getElem?_cons_zero, Option.map_some, pickS]
     rw [if_neg (by unfold nmA; omega), if_neg (by unfold nmA; omega), if_pos (by unfold nmA; omega)]
    ·rw [hne _ (fun e => h2 e.symm)]
     by_cases h3 : k = nmA i + 3
     ·subst h3
      rw [Nat.beq_refl]
      simp only [cond_true, cond_false]
      rw [if_pos (by omega), hz (by unfold nmA; omega)]
      simp only [List.getElem?_cons_zero, Option.map_some, pickS]
      rw [if_neg (by unfold nmA; omega), if_neg (by unfold nmA; omega), if_neg (by unfold nmA; omega)]
     ·rw [hne _ (fun e => h3 e.symm)]
      simp only [cond_false]
      rw [ih]
      unfold nmA at *
      by_cases h : 2000000 + 4 * i ≤ k
      ·rw [if_pos (by omega), if_pos h, show (k - 2000000) / 4 - i = ((k - 2000000) / 4 - (i + 1)) + 1 by omega, List.getElem?_cons_succ]
      ·rw [if_neg (by omega), if_neg h]
theorem ob_at {n : Nat} {L : List (List Bool × List Bool)} {i j : Nat} {x : List Bool × List Bool} (h : L[i]? = some x) (hj : j < 4) : optA (objsL n 0 L) (nmA i + j) = some (pickS n (nmA i + j) x) := by
 rw [optA_objsL, if_pos (by unfold nmA; omega), show (nmA i + j - 2000000) / 4 - 0 = i by unfold nmA; omega, h]
 rfl
theorem ob_inB {n : Nat} {L : List (List Bool × List Bool)} {i : Nat} {a b : List Bool} (h : L[i]? = some (a, b)) : optA (objsL n 0 L) (nmA i) = some (bxS n (nmA i)) := by
 have := ob_at (n := n) h (j := 0) (by omega)
 rw [Nat.add_zero] at this
 rw [this, pickS, if_pos (by unfold nmA; omega)]
theorem ob_inW {n : Nat} {L : List (List Bool × List Bool)} {i : Nat} {a b : List Bool} (h : L[i]? = some (a, b)) : optA (objsL n 0 L) (nmA i + 1) = some (wdS a) := by
 rw [ob_at (n := n) h (j := 1) (by omega), pickS, if_neg (by unfold nmA; omega), if_pos (by unfold nmA; omega)]
theorem ob_outB {n : Nat} {L : List (List Bool × List Bool)} {i : Nat} {a b : List Bool} (h : L[i]? = some (a, b)) : optA (objsL n 0 L) (nmA i + 2) = some (bxS n (nmA i + 2)) := by
 rw [ob_at (n := n) h (j := 2) (by omega), pickS, if_neg (by unfold nmA; omega), if_neg (by unfold nmA; omega), if_pos (by unfold nmA; omega)]
theorem ob_outW {n : Nat} {L : List (List Bool × List Bool)} {i : Nat} {a b : List Bool} (h : L[i]? = some (a, b)) : optA (objsL n 0 L) (nmA i + 3) = some (wdS b) := by
 rw [ob_at (n := n) h (j := 3) (by omega), pickS, if_neg (by unfold nmA; omega), if_neg (by unfold nmA; omega), if_neg (by unfold nmA; omega)]
theorem ob_low {n k : Nat} {L : List (List Bool × List Bool)} (h : k < 2000000) : optA (objsL n 0 L) k = none := by
 rw [optA_objsL, if_neg (by unfold nmA; omega)]
theorem ob_high {n k : Nat} {L : List (List Bool × List Bool)} (h : nmA L.length ≤ k) : optA (objsL n 0 L) k = none := by
 rw [optA_objsL]
 split
 ·rw [List.getElem?_eq_none (by unfold nmA at h; omega)]
  rfl
 ·rfl
theorem ob_upIn {n k : Nat} {L : List (List Bool × List Bool)} {i : Nat} {a b a' : List Bool} (h : L[i]? = some (a, b)) : optA (objsL n 0 (L.set i (a', b))) k = if k = nmA i + 1 then some (wdS a') else optA (objsL n 0 L) k := by
 have hi := (List.getElem?_eq_some_iff.1 h).1
 by_cases e : k = nmA i + 1
 ·rw [if_pos e, e]
  exact ob_inW (by rw [List.getElem?_set_self hi])
 ·rw [if_neg e, optA_objsL, optA_objsL]
  by_cases c : nmA 0 ≤ k
  ·rw [if_pos c, if_pos c]
   by_cases d : (k - 2000000) / 4 - 0 = i
   ·rw [d, List.getElem?_set_self hi, h]
    simp only [Option.map_some, pickS]
    rw [if_neg (c := k % 4 = 1) (by unfold nmA at *; omega), if_neg (c := k % 4 = 1) (by unfold nmA at *; omega)]
   ·rw [List.getElem?_set_ne (fun q => d q.symm)]
  ·rw [if_neg c, if_neg c]
theorem ob_upOut {n k : Nat} {L : List (List Bool × List Bool)} {i : Nat} {a b b' : List Bool} (h : L[i]? = some (a, b)) : optA (objsL n 0 (L.set i (a, b'))) k = if k = nmA i + 3 then some (wdS b') else optA (objsL n 0 L) k := by
 have hi := (List.getElem?_eq_some_iff.1 h).1
 by_cases e : k = nmA i + 3
 ·rw [if_pos e, e]
  exact ob_outW (by rw [List.getElem?_set_self hi])
 ·rw [if_neg e, optA_objsL, optA_objsL]
  by_cases c : nmA 0 ≤ k
  ·rw [if_pos c, if_pos c]
   by_cases d : (k - 2000000) / 4 - 0 = i
   ·rw [d, List.getElem?_set_self hi, h]
    simp only [Option.map_some, pickS]
    by_cases m0 : k % 4 = 0
    ·rw [if_pos m0, if_pos m0]
    ·rw [if_neg m0, if_neg m0]
     by_cases m1 : k % 4 = 1
     ·rw [if_pos m1, if_pos m1]
     ·rw [if_neg m1, if_neg m1, if_pos (by unfold nmA at *; omega), if_pos (by unfold nmA at *; omega)]
   ·rw [List.getElem?_set_ne (fun q => d q.symm)]
  ·rw [if_neg c, if_neg c]
/-- One set, lent. -/
theorem lend_set {μ : Nat → Option Ob} {n k w : Nat} {s : List Bool} {xs ys : List AV} {ks : List Nat} (hn : s.length = n) (h1 : μ k = some (.box [.int .i64 (n : Int), .hs (k + 1) w 0 (nw n)])) (h2 : μ (k + 1) = some (.arr w 1 (encWs s))) (h : LendL μ xs ys ks) :
  LendL μ (.ref k 0 :: xs) (setA n s :: ys) (k :: ([k + 1] ++ ks)) := by
 have e : ((encWs s).drop 0).take (nw n) = encWs s := by rw [List.drop_zero, ← hn]; exact encWs_take s
 have h3 : LendL μ [.int .i64 (n : Int), .hs (k + 1) w 0 (nw n)] [.int .i64 (n : Int), .sl (((encWs s).drop 0).take (nw n))] [k + 1] := .pure rfl (.hs h2 .nil)
 rw [e] at h3
 exact .ref (off := 0) h1 h3 rfl h
theorem lend_refs {μ : Nat → Option Ob} {n : Nat} : ∀ {ks : List Nat} {ss : List (List Bool)}, ks.length = ss.length → (∀ (i k : Nat) (s : List Bool), ks[i]? = some k → ss[i]? = some s → μ k = some (bxS n k) ∧ μ (k + 1) = some (wdS s) ∧ s.length = n) →
  ∃ kk, LendL μ (ks.map fun k => .ref k 0) (ss.map fun s => setA n s) kk
 | [], [], _, _ => ⟨_, .nil⟩
 | k :: ks, s :: ss, hl, h => by
  have ⟨kk, h1⟩ := lend_refs (ks := ks) (ss := ss) (by simpa using hl) fun i k s a b => h (i + 1) k s (by simpa using a) (by simpa using b)
  have ⟨a, b, c⟩ := h 0 k s rfl rfl
  exact ⟨_, lend_set (w := 0) c a b h1⟩
 | [], _ :: _, hl, _ => by simp at hl
 | _ :: _, [], hl, _ => by simp at hl
/- live.New$1: one block's round. -/
def refsI (m : Nat) : List AV := (List.range m).map fun i => .ref (nmA i) 0
def refsO (m : Nat) : List AV := (List.range m).map fun i => .ref (nmA i + 2) 0
/-- The Live box in work: f's cells, its points, the values, the two arrays of sets. -/
def lvB (f : Fnc) (v m vi vo k : Nat) : Ob := .box [.bool f.machine, .str f.name, .sl (f.regs.map encRg), .sl (f.params.map encO), .sl (f.blocks.map encBk), ptP f.blocks, .hs 1012 v 0 m, .hs 1013 vi 0 k, .hs 1014 vo 0 k]
def stL (f : Fnc) (v vi vo : Nat) (rg : List (List AV)) (u : List Int) (ch : Bool) (L : List (List Bool × List Bool)) : List (Nat × Ob) :=
 (3, .box [.ref 12 0]) :: (7, .pbox [.bool ch]) :: (12, lvB f v u.length vi vo L.length) :: (1012, .arr v 1 rg) :: (1013, .rarr vi (refsI L.length)) :: (1014, .rarr vo (refsO L.length)) :: objsL u.length 0 L
theorem ob_stL {f : Fnc} {v vi vo k : Nat} {rg : List (List AV)} {u : List Int} {ch : Bool} {L : List (List Bool × List Bool)} (h : 2000000 ≤ k) : optA (stL f v vi vo rg u ch L) k = optA (objsL u.length 0 L) k := by
 unfold stL
 rw [optA_ne (by omega), optA_ne (by omega), optA_ne (by omega), optA_ne (by omega), optA_ne (by omega), optA_ne (by omega)]
theorem refsI_get {m i : Nat} (h : i < m) : (refsI m)[i]? = some (.ref (nmA i) 0) := by simp [refsI, h]
theorem refsO_get {m i : Nat} (h : i < m) : (refsO m)[i]? = some (.ref (nmA i + 2) 0) := by simp [refsO, h]
theorem one_sets {n : Nat} : ∀ {ss : List (List Bool)}, oneAL (ss.map fun s => setA n s) = true
 | [] => rfl
 | s :: ss => by
  have := one_sets (n := n) (ss := ss)
  simp only [List.map_cons, oneAL, Bool.and_eq_true]
  exact ⟨rfl, this⟩
theorem setA_enc {n : Nat} : ∀ {ss : List (List Bool)}, (∀ s ∈ ss, s.length = n) → ((ss.map fun s => setA n s).map fun c => [c]) = ss.map encSet
 | [], _ => rfl
 | s :: ss, h => by
  have := setA_enc (n := n) (ss := ss) fun x hx => h x (List.mem_cons_of_mem _ hx)
  rw [List.map_cons, List.map_cons, List.map_cons, this]
  congr 1
  simp only [encSet, setA, setP, h s List.mem_cons_self]
/-- The Live in work, lent whole: what its readers see. -/
theorem lend_live {μ : Nat → Option Ob} {f : Fnc} {v vi vo : Nat} {rg : List (List AV)} {u : List Int} {L : List (List Bool × List Bool)}
  (hrg : rg.take u.length = u.map encN) (hL : ∀ x ∈ L, x.1.length = u.length ∧ x.2.length = u.length)
  (m1 : μ 12 = some (lvB f v u.length vi vo L.length)) (m2 : μ 1012 = some (.arr v 1 rg)) (m3 : μ 1013 = some (.rarr vi (refsI L.length))) (m4 : μ 1014 = some (.rarr vo (refsO L.length)))
  (m5 : ∀ i a b, L[i]? = some (a, b) → μ (nmA i) = some (bxS u.length (nmA i)) ∧ μ (nmA i + 1) = some (wdS a) ∧ μ (nmA i + 2) = some (bxS u.length (nmA i + 2)) ∧ μ (nmA i + 3) = some (wdS b)) :
  ∃ kk, LendL μ [.ref 12 0] [lvP f u (L.map (·.1)) (L.map (·.2))] kk := by
 have ⟨k1, h1⟩ := lend_refs (μ := μ) (n := u.length) (ks := (List.range L.length).map nmA) (ss := L.map (·.1)) (by simp) (by
  intro i k s hk hs
  rw [List.getElem?_map] at hk hs
  cases hx : L[i]? with
  | none => rw [hx] at hs; cases hs
  | some x =>
   have hi := (List.getElem?_eq_some_iff.1 hx).1
   rw [hx] at hs
   rw [List.getElem?_range hi] at hk
   have e1 := Option.some.inj hk
   have e2 := Option.some.inj hs
   rw [← e1, ← e2]
   have := m5 i x.1 x.2 hx
   exact ⟨this.1, this.2.1, (hL x (List.mem_of_getElem? hx)).1⟩)
 have ⟨k2, h2⟩ := lend_refs (μ := μ) (n := u.length) (ks := (List.range L.length).map fun i => nmA i + 2) (ss := L.map (·.2)) (by simp) (by
  intro i k s hk hs
  rw [List.getElem?_map] at hk hs
  cases hx : L[i]? with
  | none => rw [hx] at hs; cases hs
  | some x =>
   have hi := (List.getElem?_eq_some_iff.1 hx).1
   rw [hx] at hs
   rw [List.getElem?_range hi] at hk
   have e1 := Option.some.inj hk
   have e2 := Option.some.inj hs
   rw [← e1, ← e2]
   have := m5 i x.1 x.2 hx
   exact ⟨this.2.2.1, this.2.2.2, (hL x (List.mem_of_getElem? hx)).2⟩)
 rw [List.map_map] at h1 h2
 have e1 := setA_enc (n := u.length) (ss := L.map (·.1)) (by intro s hs; have ⟨x, hx, e⟩ := List.mem_map.1 hs; rw [← e]; exact (hL x hx).1)
 have e2 := setA_enc (n := u.length) (ss := L.map (·.2)) (by intro s hs; have ⟨x, hx, e⟩ := List.mem_map.1 hs; rw [← e]; exact (hL x hx).2)
 have t1 : (((L.map (·.1)).map fun s => setA u.length s).drop 0).take L.length = (L.map (·.1)).map fun s => setA u.length s := by rw [List.drop_zero]; exact List.take_of_length_le (by simp)
 have t2 : (((L.map (·.2)).map fun s => setA u.length s).drop 0).take L.length = (L.map (·.2)).map fun s => setA u.length s := by rw [List.drop_zero]; exact List.take_of_length_le (by simp)
 have g4 : LendL μ [.hs 1014 vo 0 L.length] _ _ := .hsr (off := 0) (len := L.length) m4 h2 one_sets .nil
 have g3 : LendL μ [.hs 1013 vi 0 L.length, .hs 1014 vo 0 L.length] _ _ := .hsr (off := 0) (len := L.length) m3 h1 one_sets g4
 have g2 : LendL μ [.hs 1012 v 0 u.length, .hs 1013 vi 0 L.length, .hs 1014 vo 0 L.length] _ _ := .hs (off := 0) (len := u.length) m2 g3
 rw [t1, t2, e1, e2, List.drop_zero, hrg] at g2
 have g1 : LendL μ [.bool f.machine, .str f.name, .sl (f.regs.map encRg), .sl (f.params.map encO), .sl (f.blocks.map encBk), ptP f.blocks, .hs 1012 v 0 u.length, .hs 1013 vi 0 L.length, .hs 1014 vo 0 L.length] _ _ := .pure rfl (.pure rfl (.pure rfl (.pure rfl (.pure rfl (.pure rfl g2)))))
 exact ⟨_, .ref (off := 0) m1 g1 rfl .nil⟩
def orS (a b : List Bool) : List Bool := two (fun x y => x || y) a b
def insAt (L : List (List Bool × List Bool)) (i : Nat) : List Bool := (L.getD i ([], [])).1
def outAt (L : List (List Bool × List Bool)) (i : Nat) : List Bool := (L.getD i ([], [])).2
/-- One set joined into another, both in work. -/
theorem or_callE {μ : Nat → Option Ob} {n a b w : Nat} {x y : List Bool} {K : KO} (hx : x.length = n) (hy : y.length = n) (hm : n < 1000000000) (h1 : μ a = some (bxS n a)) (h2 : μ (a + 1) = some (wdS x)) (h3 : μ b = some (.box [.int .i64 (n : Int), .hs (b + 1) w 0 (nw n)])) (h4 : μ (b + 1) = some (.arr w 1 (encWs y)))
  (n1 : b ≠ a) (n2 : b ≠ a + 1) (n3 : b + 1 ≠ a) (hk : ∀ acc, K (.bool (orS x y != x)) [(a, bxS n a), (a + 1, wdS (orS x y))] acc) : @CallE Tryz.prog 35 [.ref a 0, .ref b 0] μ ⟨K⟩ := by
 have hc := C35 hx hy (by omega) (by omega)
 have e1 : Nat.beq a (a + 1) = false := beq_ne (by omega)
 have e2 : Nat.beq (a + 1) a = false := beq_ne (by omega)
 have e0 : Nat.beq a a = true := Nat.beq_refl a
 have e3 : Nat.beq (a + 1) (a + 1) = true := Nat.beq_refl _
 have e4 : Nat.beq 0 1 = false := rfl
 have hh : ∀ k, k ≠ a → k ≠ a + 1 → hideM [a, a + 1] μ k = μ k := fun k c1 c2 => by
  simp only [hideM, memK, List.any_cons, List.any_nil, Bool.or_false]
  rw [beq_ne (Ne.symm c1), beq_ne (Ne.symm c2)]
  rfl
 have hl : LendL (hideM [a, a + 1] μ) [.ref b 0] [setA n y] _ := lend_set hy (by rw [hh _ n1 n2]; exact h3) (by rw [hh _ n3 (by omega)]; exact h4) .nil
 have hp : ArgL μ [a, a + 1] [.ref a 0, .ref b 0] [ren (idxM 0 [a, a + 1]) (.ref a 0), setA n y] _ := .pass (k := a) rfl (by simp) (.lend hl .nil)
 have er : ren (idxM 0 [a, a + 1]) (.ref a 0) = .ref 0 0 := by
  simp [idxM, ren, optA, e0]
  done
 rw [er] at hp
 have ho : getObsM μ [a, a + 1] = some [bxS n a, wdS x] := by simp [getObsM, h1, h2]
 have hmo : mapOb (idxM 0 [a, a + 1]) [bxS n a, wdS x] = [.box [.int .i64 (n : Int), .hs 1 0 0 (nw n)], .arr 0 1 (encWs x)] := by
  simp [mapOb, idxM, bxS, wdS, renOb, renL, ren, optA, e0, e1, e3]
  done
 have hc2 : Ctr Tryz.prog 35 [.ref 0 0, setA n y] (mapOb (idxM 0 [a, a + 1]) [bxS n a, wdS x]) (retO [.bool (orS x y != x)] [.box [.int .i64 (n : Int), .hs 1 0 0 (nw n)], .arr 0 1 (encWs (orS x y))]) := by
  rw [hmo]
  exact hc
 have hz : zipU ([a, a + 1] ++ []) (mapOb (invL (idxM 0 ([a, a + 1] ++ []))) [.box [.int .i64 (n : Int), .hs 1 0 0 (nw n)], .arr 0 1 (encWs (orS x y))]) = [(a, bxS n a), (a + 1, wdS (orS x y))] := by
  simp [mapOb, idxM, invL, zipU, bxS, wdS, renOb, renL, ren, optA, e4]
  done
 have hkk : keysOk (idxM 0 ([a, a + 1] ++ [])) = true ∧ keysOk (idxM 0 [a, a + 1]) = true := by
  simp [idxM, keysOk, pairsOk, e1, e2, e4]
  done
 have hk2 := hk (b :: ([b + 1] ++ []) ++ [], [a, a + 1] ++ [])
 rw [← hz] at hk2
 exact callE [a, a + 1] [] hkk ho rfl hp hc2 ⟨rfl, rfl, by simp only [List.all_cons, List.all_nil, Bool.and_true, Bool.and_eq_true]; exact ⟨rfl, by simp only [scalOb]; exact scalW _⟩⟩ hk2
/-- upTo on the Live in work: the copy is of two new names. -/
theorem up_callE {μ : Nat → Option Ob} {f : Fnc} {v vi vo : Nat} {rg : List (List AV)} {u : List Int} {L : List (List Bool × List Bool)} {b : Nat} {B : Blk} {x y : List Bool} {K : KO}
  (hrg : rg.take u.length = u.map encN) (hL : ∀ x ∈ L, x.1.length = u.length ∧ x.2.length = u.length)
  (m1 : μ 12 = some (lvB f v u.length vi vo L.length)) (m2 : μ 1012 = some (.arr v 1 rg)) (m3 : μ 1013 = some (.rarr vi (refsI L.length))) (m4 : μ 1014 = some (.rarr vo (refsO L.length)))
  (m5 : ∀ i a b, L[i]? = some (a, b) → μ (nmA i) = some (bxS u.length (nmA i)) ∧ μ (nmA i + 1) = some (wdS a) ∧ μ (nmA i + 2) = some (bxS u.length (nmA i + 2)) ∧ μ (nmA i + 3) = some (wdS b))
  (m6 : μ 1000000000 = none) (m7 : μ 1000000001 = none) (hs : Srt u) (hul : u.length < 1000000) (hB : f.blocks[b]? = some B) (hb : L[b]? = some (x, y)) (ha : ∀ x ∈ B.code, x.args.length ≤ 9223372036854775807) (hll : B.code.length < 1000000)
  (hk : ∀ ks, K (.ref 1000000000 0) [(1000000000, .box [.int .i64 (u.length : Int), .hs 1000000001 1 0 (nw u.length)]), (1000000001, .arr 1 1 (encWs (backS u B.code y)))] (ks, [1000000000, 1000000001])) :
  @CallE Tryz.prog 36 [.ref 12 0, .int .i64 (b : Int), .int .i64 0] μ ⟨K⟩ := by
 have hy : y.length = u.length := (hL _ (List.mem_of_getElem? hb)).2
 have hc := C36 f u (L.map (·.1)) (L.map (·.2)) u.length b 0 B y hs hul hy (by omega) hB (by rw [List.getElem?_map, hb]; rfl) (Nat.zero_le _) ha hll
 rw [List.drop_zero] at hc
 have ⟨kk, hl⟩ := lend_live hrg hL m1 m2 m3 m4 m5
 have hp : ArgL μ [] [.ref 12 0, .int .i64 (b : Int), .int .i64 0] [lvP f u (L.map (·.1)) (L.map (·.2)), .int .i64 (b : Int), .int .i64 0] _ := .lend hl (.lend (.pure rfl .nil) (.lend (.pure rfl .nil) .nil))
 have h3 : allNoneM μ [1000000000, 1000000001] = true := by simp [allNoneM, m6, m7]
 exact callE [] [1000000000, 1000000001] ⟨by kernel_rfl, by kernel_rfl⟩ rfl h3 hp hc ⟨rfl, rfl, by simp only [setN, List.all_cons, List.all_nil, Bool.and_true, Bool.and_eq_true]; exact ⟨rfl, by simp only [scalOb]; exact scalW _⟩⟩ (hk _)
/-- Block b's out when the first ways out have been joined in. -/
def outK (L : List (List Bool × List Bool)) (r : List Nat) (b : Nat) : List Bool := r.foldl (fun o s => orS o (insAt L s)) (outAt L b)
theorem fzB_ref {k : Nat} {ob : Ob} {a : Nat → Nat} {o : Nat} : ∀ {l : List Nat}, (∀ i ∈ l, a i ≠ k) → fzL k ob (l.map fun i => .ref (a i) o) = l.map fun i => .ref (a i) o
 | [], _ => rfl
 | i :: l, h => by
  have := fzB_ref (k := k) (ob := ob) (a := a) (o := o) (l := l) fun j hj => h j (List.mem_cons_of_mem _ hj)
  simp only [List.map_cons, fzL, fz, beq_ne (h i List.mem_cons_self), cond_false, this]
/-- A set of names k, k + 1 that no one has any more is forgotten. -/
theorem dropSet {x : St} {rs : List (Nat × AV)} {objs : List (Nat × Ob)} {k w n : Nat} {s : List Bool} (h1 : x.ob k = some (.box [.int .i64 (n : Int), .hs (k + 1) w 0 (nw n)])) (h2 : x.ob (k + 1) = some (.arr w 1 (encWs s)))
  (hob : ∀ j, j ≠ k → j ≠ k + 1 → x.ob j = optA objs j) (n1 : optA objs k = none) (n2 : optA objs (k + 1) = none)
  (hfz : ∀ j o kk ob, optA objs j = some o → (kk = k ∨ kk = k + 1) → fzOb kk ob o = o)
  (hreg : ∀ p ∈ rs, x.reg p.1 = p.2) (hrf : ∀ p ∈ rs, ∀ kk ob, (kk = k ∨ kk = k + 1) → fz kk ob p.2 = p.2) : StpB k x ⟨rs, objs⟩ := by
 have a1 : StpB k x ⟨rs, x.objs⟩ := .drop .refl (reg_sub hreg) fun j => rfl
 have b1 : (⟨rs, x.objs⟩ : St).ob (k + 1) = some (.arr w 1 (encWs s)) := h2
 have a2 := a1.frz (k + 1) b1 rfl (by omega)
 have b2 : ((⟨rs, x.objs⟩ : St).frz (k + 1) (.arr w 1 (encWs s))).ob k = some (.box [.int .i64 (n : Int), .sl (((encWs s).drop 0).take (nw n))]) := by
  show optA (fzO _ _ _) k = _
  rw [fzO_ob, if_neg (by omega)]
  have h1' : optA x.objs k = _ := h1
  rw [h1']
  simp [fzOb, fzL, fz]
 have a3 := a2.frz k b2 rfl (Nat.le_refl _)
 refine a3.same ⟨fun i => ?_, fun j => ?_⟩
 ·show getA .dead (fzR _ _ (fzR _ _ rs)) i = getA .dead rs i
  rw [fzR_reg, fzR_reg]
  have hd : ∀ (l : List (Nat × AV)), (∀ p ∈ l, ∀ kk ob, (kk = k ∨ kk = k + 1) → fz kk ob p.2 = p.2) → ∀ kk ob, (kk = k ∨ kk = k + 1) → fz kk ob (getA .dead l i) = getA .dead l i := by
   intro l
   induction l with
   | nil => intro _ kk ob _; simp [getA, fz]
   | cons p l ih =>
    intro h kk ob hk
    obtain ⟨a, v⟩ := p
    simp only [getA]
    cases Nat.beq a i with
    | true => exact h (a, v) List.mem_cons_self kk ob hk
    | false => exact ih (fun p hp => h p (List.mem_cons_of_mem _ hp)) kk ob hk
  rw [hd rs hrf _ _ (.inr rfl), hd rs hrf _ _ (.inl rfl)]
 ·show optA (fzO _ _ (fzO _ _ x.objs)) j = optA objs j
  rw [fzO_ob, fzO_ob]
  by_cases e1 : j = k
  ·rw [if_pos e1, e1, n1]
  ·rw [if_neg e1]
   by_cases e2 : j = k + 1
   ·rw [if_pos e2, e2, n2]; rfl
   ·rw [if_neg e2]
    have := hob j e1 e2
    have : optA x.objs j = optA objs j := this
    rw [this]
    cases ho : optA objs j with
    | none => rfl
    | some o => simp only [Option.map_some]; rw [hfz j o _ _ ho (.inr rfl), hfz j o _ _ ho (.inl rfl)]
theorem fz_stL {f : Fnc} {v vi vo : Nat} {rg : List (List AV)} {u : List Int} {ch : Bool} {L : List (List Bool × List Bool)} (hl : L.length < 1000000) {j kk : Nat} {o ob : Ob} (h : optA (stL f v vi vo rg u ch L) j = some o) (hk : 1000000000 ≤ kk ∨ kk = 7) : fzOb kk ob o = o := by
 unfold stL at h
 simp only [optA] at h
 have nk : ∀ i, i < 1000000000 → i ≠ 7 → Nat.beq i kk = false := fun i hi h7 => beq_ne (by omega)
 cases h3 : Nat.beq 3 j with
 | true => rw [h3] at h; cases h; simp [fzOb, fzL, fz, nk]
 | false =>
 rw [h3] at h; simp only [cond_false] at h
 cases h7 : Nat.beq 7 j with
 | true => rw [h7] at h; cases h; simp [fzOb, fzL, fz, nk]
 | false =>
 rw [h7] at h; simp only [cond_false] at h
 cases h12 : Nat.beq 12 j with
 | true => rw [h12] at h; cases h; simp [lvB, ptP, fzOb, fzL, fz, nk]
 | false =>
 rw [h12] at h; simp only [cond_false] at h
 cases h1012 : Nat.beq 1012 j with
 | true => rw [h1012] at h; cases h; rfl
 | false =>
 rw [h1012] at h; simp only [cond_false] at h
 cases h1013 : Nat.beq 1013 j with
 | true =>
  rw [h1013] at h; cases h; simp only [fzOb, refsI]
  rw [fzB_ref]
  intro i hi
  have := List.mem_range.1 hi
  unfold nmA
  omega
 | false =>
 rw [h1013] at h; simp only [cond_false] at h
 cases h1014 : Nat.beq 1014 j with
 | true =>
  rw [h1014] at h; cases h; simp only [fzOb, refsO]
  rw [fzB_ref (a := fun i => nmA i + 2)]
  intro i hi
  have := List.mem_range.1 hi
  unfold nmA
  omega
 | false =>
 rw [h1014] at h; simp only [cond_false] at h
 rw [optA_objsL] at h
 by_cases hj : nmA 0 ≤ j
 ·rw [if_pos hj] at h
  cases hx : L[(j - 2000000) / 4 - 0]? with
  | none => rw [hx] at h; cases h
  | some p =>
   rw [hx] at h
   have hlt := (List.getElem?_eq_some_iff.1 hx).1
   have := Option.some.inj h
   rw [← this]
   have hjk : Nat.beq (j + 1) kk = false := beq_ne (by unfold nmA at hj; omega)
   unfold pickS
   split
   ·simp [bxS, fzOb, fzL, fz, hjk]
   ·split
    ·rfl
    ·split
     ·simp [bxS, fzOb, fzL, fz, hjk]
     ·rfl
 ·rw [if_neg hj] at h; cases h
/-- What a block's round makes of the sets, and whether it changes what is wanted at its beginning. -/
def inN (u : List Int) (B : Blk) (r : List Nat) (L : List (List Bool × List Bool)) (b : Nat) : List Bool := orS (insAt L b) (backS u B.code (outK L r b))
def stepL (u : List Int) (B : Blk) (r : List Nat) (L : List (List Bool × List Bool)) (b : Nat) : List (List Bool × List Bool) := L.set b (inN u B r L b, outK L r b)
def stepC (u : List Int) (B : Blk) (r : List Nat) (L : List (List Bool × List Bool)) (b : Nat) : Bool := inN u B r L b != insAt L b
def rndG (μ : List (Nat × Ob)) : List AV → List (Nat × Ob) → Prop := fun res objs => res = [] ∧ ∀ k, optA objs k = optA μ k
theorem C33 (f : Fnc) (v vi vo : Nat) (rg : List (List AV)) (u : List Int) (ch : Bool) (L : List (List Bool × List Bool)) (S P : List (List Nat)) (b : Nat) (B : Blk) (r : List Nat) (hb : b < S.length) (hS : S[b]? = some r) (hr : r.length < 1000000) (hrs : ∀ s ∈ r, s < L.length) (hbL : b < L.length) (hL : ∀ x ∈ L, x.1.length = u.length ∧ x.2.length = u.length) (hul : u.length < 1000000) (hrg : rg.take u.length = u.map encN) (hsr : Srt u) (hBk : f.blocks[b]? = some B) (ha : ∀ x ∈ B.code, x.args.length ≤ 9223372036854775807) (hll : B.code.length < 1000000) (hLl : L.length < 1000000) (hB : ∀ k ∈ (stL f v vi vo rg u ch L).map (·.1), k < 1000000000) :
  CtrG Tryz.prog 33 [.int .i64 (b : Int), .agg (encBk B), .rp [grP S P], .ref 3 0, .ref 7 0] (stL f v vi vo rg u ch L) (rndG (stL f v vi vo rg u (ch || stepC u B r L b) (stepL u B r L b))) := by
 have hsu := C34 S P b r hb hS hr
 apply ctr_bG A33_ok hB (Nat.le_of_ble_eq_true rfl)
 unfold A33
 have ⟨G, eG⟩ : ∃ G, grP S P = .rp G := ⟨_, rfl⟩
 rw [eG] at hsu ⊢
 simp only [initL, Nat.reduceAdd]
 simp -implicitDefEqProofs (disch := omega) only [↓reduceIte, go_sem, reduceToNat, reduceAdd, reduceLeDiff, reduceEqDiff, reduceSub, reduceMul, reduceCtorEq, encBk]
 refine callL hsu ?_
 simp -implicitDefEqProofs (disch := omega) only [↓reduceIte, go_sem, reduceToNat, reduceAdd, reduceLeDiff, reduceEqDiff, reduceSub, reduceMul, reduceCtorEq]
 have hok : ∀ l, (outK L l b).length = u.length := fun l => by
  have h0 : (outAt L b).length = u.length := by
   rw [outAt, List.getD_eq_getElem?_getD, List.getElem?_eq_getElem hbL]
   exact (hL _ (List.getElem_mem hbL)).2
  unfold outK
  revert h0
  generalize outAt L b = o
  intro h0
  induction l generalizing o with
  | nil => exact h0
  | cons s l ih => exact ih (orS o (insAt L s)) ((two_len _ _ _).trans h0)
 refine loopB (σ := Nat) (fun k => ⟨[(0, .int .i64 (b : Int)), (3, .ref 3 0), (4, .ref 7 0), (11, .sl (r.map encK)), (12, .int .i64 (r.length : Int)), (13, .int .i64 (k : Int))], stL f v vi vo rg u ch (L.set b (insAt L b, outK L (r.take k) b))⟩)
  (fun k => k ≤ r.length) (fun k => r.length - k) 0 ?_ (Nat.zero_le _) ?_
 ·have hL0 : L.set b (insAt L b, outK L (r.take 0) b) = L := by
   have hg : L[b]? = some (L.getD b ([], [])) := by rw [List.getD_eq_getElem?_getD, List.getElem?_eq_getElem hbL]; rfl
   apply List.ext_getElem? fun j => ?_
   by_cases e : j = b
   ·rw [e, List.getElem?_set_self hbL, hg]
    rfl
   ·rw [List.getElem?_set_ne fun q => e q.symm]
  rw [hL0]
  refine .drop .refl (reg_sub ?_) fun k => rfl
  intro p hp
  simp only [List.mem_cons, List.not_mem_nil, or_false] at hp
  rcases hp with rfl | rfl | rfl | rfl | rfl | rfl <;> (simp -implicitDefEqProofs (disch := omega) only [↓reduceIte, go_sem, reduceToNat, reduceAdd, reduceLeDiff, reduceEqDiff, reduceSub, reduceMul, reduceCtorEq]; try rfl)
 ·intro k hk
  have hLk : (L.set b (insAt L b, outK L (r.take k) b)).length = L.length := List.length_set
  unfold stL
  rw [hLk]
  simp -implicitDefEqProofs (disch := omega) only [↓reduceIte, go_sem, reduceToNat, reduceAdd, reduceLeDiff, reduceEqDiff, reduceSub, reduceMul, reduceCtorEq]
  refine ifD (fun c => ?_) (fun c => ?_)
  ·have hx := List.getElem?_eq_getElem (l := r) (i := k) (by omega)
   generalize r[k] = s at hx
   have hsl := hrs s (List.mem_of_getElem? hx)
   have q1 := refsI_get hsl
   have q2 := refsO_get hbL
   simp -implicitDefEqProofs (disch := omega) only [↓reduceIte, go_sem, reduceToNat, reduceAdd, reduceLeDiff, reduceEqDiff, reduceSub, reduceMul, reduceCtorEq, hx, encK, lvB, q1, q2]
   have hg : (L.set b (insAt L b, outK L (r.take k) b))[b]? = some (insAt L b, outK L (r.take k) b) := List.getElem?_set_self hbL
   have ⟨y, hy⟩ : ∃ y, (L.set b (insAt L b, outK L (r.take k) b))[s]? = some (insAt L s, y) := by
    by_cases e : s = b
    ·rw [e]
     exact ⟨_, hg⟩
    ·rw [List.getElem?_set_ne fun q => e q.symm, List.getElem?_eq_getElem hsl]
     exact ⟨L[s].2, by simp [insAt, List.getD_eq_getElem?_getD, hsl]⟩
   have hol : (outK L (r.take k) b).length = u.length := hok _
   have hil : (insAt L s).length = u.length := by
    rw [insAt, List.getD_eq_getElem?_getD, List.getElem?_eq_getElem hsl]
    exact (hL _ (List.getElem_mem hsl)).1
   refine or_callE (w := 0) hol hil (by omega) ?_ ?_ ?_ ?_ (by unfold nmA; omega) (by unfold nmA; omega) (by unfold nmA; omega) fun acc => ?_
   ·show optA _ (nmA b + 2) = _
    rw [optA_ne (by unfold nmA; omega), optA_ne (by unfold nmA; omega), optA_ne (by unfold nmA; omega), optA_ne (by unfold nmA; omega), optA_ne (by unfold nmA; omega), optA_ne (by unfold nmA; omega)]
    exact ob_outB hg
   ·show optA _ (nmA b + 2 + 1) = _
    rw [optA_ne (by unfold nmA; omega), optA_ne (by unfold nmA; omega), optA_ne (by unfold nmA; omega), optA_ne (by unfold nmA; omega), optA_ne (by unfold nmA; omega), optA_ne (by unfold nmA; omega)]
    exact ob_outW hg
   ·show optA _ (nmA s) = _
    rw [optA_ne (by unfold nmA; omega), optA_ne (by unfold nmA; omega), optA_ne (by unfold nmA; omega), optA_ne (by unfold nmA; omega), optA_ne (by unfold nmA; omega), optA_ne (by unfold nmA; omega)]
    exact ob_inB hy
   ·show optA _ (nmA s + 1) = _
    rw [optA_ne (by unfold nmA; omega), optA_ne (by unfold nmA; omega), optA_ne (by unfold nmA; omega), optA_ne (by unfold nmA; omega), optA_ne (by unfold nmA; omega), optA_ne (by unfold nmA; omega)]
    exact ob_inW hy
   ·simp -implicitDefEqProofs (disch := omega) only [↓reduceIte, go_sem, reduceToNat, reduceAdd, reduceLeDiff, reduceEqDiff, reduceSub, reduceMul, reduceCtorEq]
    refine accL (by simp [accsOk, pairsOk, accClash, meets, n0]) ?_
    have z1 : (nmA b = 1) = False := eq_false (by unfold nmA; omega)
    have z2 : (nmA b = 5) = False := eq_false (by unfold nmA; omega)
    have z3 : (nmA b = 10) = False := eq_false (by unfold nmA; omega)
    have z4 : (nmA b = 1010) = False := eq_false (by unfold nmA; omega)
    have z5 : (nmA b = 1011) = False := eq_false (by unfold nmA; omega)
    have z6 : (nmA b = 1012) = False := eq_false (by unfold nmA; omega)
    have z7 : (nmA b = nmA b + 1) = False := eq_false (by omega)
    have z8 : (nmA b = 0) = False := eq_false (by unfold nmA; omega)
    have z9 : (nmA b = 4) = False := eq_false (by unfold nmA; omega)
    have z10 : (nmA b = 9) = False := eq_false (by unfold nmA; omega)
    have z11 : (nmA b = 1009) = False := eq_false (by unfold nmA; omega)
    simp -implicitDefEqProofs (disch := omega) only [↓reduceIte, go_sem, reduceToNat, reduceAdd, reduceLeDiff, reduceEqDiff, reduceSub, reduceMul, reduceCtorEq, z1, z2, z3, z4, z5, z6, z7, z8, z9, z10, z11]
    refine ⟨k + 1, .drop .refl (reg_sub ?_) fun j => ?_, by omega, by omega⟩
    ·intro p hp
     simp only [List.mem_cons, List.not_mem_nil, or_false] at hp
     rcases hp with rfl | rfl | rfl | rfl | rfl | rfl <;> (simp -implicitDefEqProofs (disch := omega) only [↓reduceIte, go_sem, reduceToNat, reduceAdd, reduceLeDiff, reduceEqDiff, reduceSub, reduceMul, reduceCtorEq]; try rfl)
    ·have ho2 : outK L (r.take (k + 1)) b = orS (outK L (r.take k) b) (insAt L s) := by
      unfold outK
      rw [List.take_add_one, hx, Option.toList_some, List.foldl_append]
      rfl
     have hup := fun j => ob_upOut (n := u.length) (k := j) (b' := orS (outK L (r.take k) b) (insAt L s)) hg
     simp only [List.set_set] at hup
     rw [ho2, List.length_set]
     generalize objsL u.length 0 (L.set b (insAt L b, orS (outK L (r.take k) b) (insAt L s))) = O2 at hup
     have hob := ob_outB (n := u.length) hg
     generalize objsL u.length 0 (L.set b (insAt L b, outK L (r.take k) b)) = O1 at hup hob
     show optA _ j = optA _ j
     by_cases j1 : j = nmA b + 2 + 1
     ·rw [j1, optA_hit, optA_ne (by unfold nmA; omega), optA_ne (by unfold nmA; omega), optA_ne (by unfold nmA; omega), optA_ne (by unfold nmA; omega), optA_ne (by unfold nmA; omega), optA_ne (by unfold nmA; omega), hup, if_pos rfl]
     ·by_cases j2 : j = nmA b + 2
      ·rw [j2, optA_ne (by unfold nmA; omega), optA_ne (by unfold nmA; omega), optA_ne (by unfold nmA; omega), optA_ne (by unfold nmA; omega), optA_ne (by unfold nmA; omega), optA_ne (by unfold nmA; omega), hup, if_neg (by omega), hob, optA_ne (by omega), optA_hit]
      ·have hrest : optA O2 j = optA (delA (delA O1 (nmA b + 2)) (nmA b + 2 + 1)) j := by
        rw [optA_del, if_neg j1, optA_del, if_neg j2, hup, if_neg (by omega)]
       rw [optA_ne j1, optA_ne j2]
       simp only [optA, hrest]
  ·have p1 := refsI_get hbL
   simp -implicitDefEqProofs (disch := omega) only [↓reduceIte, go_sem, reduceToNat, reduceAdd, reduceLeDiff, reduceEqDiff, reduceSub, reduceMul, reduceCtorEq, lvB, p1]
   rw [show k = r.length by omega, List.take_length]
   have hg : (L.set b (insAt L b, outK L r b))[b]? = some (insAt L b, outK L r b) := List.getElem?_set_self hbL
   have hL2 : ∀ x ∈ L.set b (insAt L b, outK L r b), x.1.length = u.length ∧ x.2.length = u.length := by
    intro x hx
    rcases List.mem_or_eq_of_mem_set hx with h | h
    ·exact hL x h
    ·rw [h]
     refine ⟨?_, hok r⟩
     rw [insAt, List.getD_eq_getElem?_getD, List.getElem?_eq_getElem hbL]
     exact (hL _ (List.getElem_mem hbL)).1
   have hlen : (L.set b (insAt L b, outK L r b)).length = L.length := List.length_set
   have hMs : ∀ X, (L.set b (insAt L b, outK L r b)).set b X = L.set b X := fun X => List.set_set ..
   generalize L.set b (insAt L b, outK L r b) = M at hg hL2 hlen hMs ⊢
   rw [← hlen]
   refine up_callE (v := v) (vi := vi) (vo := vo) (rg := rg) (f := f) (u := u) (L := M) (B := B) hrg hL2 rfl rfl rfl rfl (fun i a c h => ⟨?_, ?_, ?_, ?_⟩) ?_ ?_ hsr hul hBk hg ha hll fun acc => ?_
   ·show optA _ (nmA i) = _
    rw [optA_ne (by unfold nmA; omega), optA_ne (by unfold nmA; omega), optA_ne (by unfold nmA; omega), optA_ne (by unfold nmA; omega), optA_ne (by unfold nmA; omega), optA_ne (by unfold nmA; omega)]
    exact ob_inB h
   ·show optA _ (nmA i + 1) = _
    rw [optA_ne (by unfold nmA; omega), optA_ne (by unfold nmA; omega), optA_ne (by unfold nmA; omega), optA_ne (by unfold nmA; omega), optA_ne (by unfold nmA; omega), optA_ne (by unfold nmA; omega)]
    exact ob_inW h
   ·show optA _ (nmA i + 2) = _
    rw [optA_ne (by unfold nmA; omega), optA_ne (by unfold nmA; omega), optA_ne (by unfold nmA; omega), optA_ne (by unfold nmA; omega), optA_ne (by unfold nmA; omega), optA_ne (by unfold nmA; omega)]
    exact ob_outB h
   ·show optA _ (nmA i + 3) = _
    rw [optA_ne (by unfold nmA; omega), optA_ne (by unfold nmA; omega), optA_ne (by unfold nmA; omega), optA_ne (by unfold nmA; omega), optA_ne (by unfold nmA; omega), optA_ne (by unfold nmA; omega)]
    exact ob_outW h
   ·show optA _ 1000000000 = _
    rw [optA_ne (by omega), optA_ne (by omega), optA_ne (by omega), optA_ne (by omega), optA_ne (by omega), optA_ne (by omega)]
    exact ob_high (by unfold nmA; omega)
   ·show optA _ 1000000001 = _
    rw [optA_ne (by omega), optA_ne (by omega), optA_ne (by omega), optA_ne (by omega), optA_ne (by omega), optA_ne (by omega)]
    exact ob_high (by unfold nmA; omega)
   ·simp -implicitDefEqProofs (disch := omega) only [↓reduceIte, go_sem, reduceToNat, reduceAdd, reduceLeDiff, reduceEqDiff, reduceSub, reduceMul, reduceCtorEq]
    have hal : (insAt L b).length = u.length := (hL2 _ (List.mem_of_getElem? hg)).1
    refine or_callE (w := 1) (y := backS u B.code (outK L r b)) hal (by rw [backS_len]; exact hok r) (by omega) ?_ ?_ rfl rfl (by unfold nmA; omega) (by unfold nmA; omega) (by unfold nmA; omega) fun acc2 => ?_
    ·show optA _ (nmA b) = _
     rw [optA_ne (by unfold nmA; omega), optA_ne (by unfold nmA; omega), optA_ne (by unfold nmA; omega), optA_ne (by unfold nmA; omega), optA_ne (by unfold nmA; omega), optA_ne (by unfold nmA; omega), optA_ne (by unfold nmA; omega), optA_ne (by unfold nmA; omega), optA_del, if_neg (by unfold nmA; omega), optA_del, if_neg (by unfold nmA; omega)]
     exact ob_inB hg
    ·show optA _ (nmA b + 1) = _
     rw [optA_ne (by unfold nmA; omega), optA_ne (by unfold nmA; omega), optA_ne (by unfold nmA; omega), optA_ne (by unfold nmA; omega), optA_ne (by unfold nmA; omega), optA_ne (by unfold nmA; omega), optA_ne (by unfold nmA; omega), optA_ne (by unfold nmA; omega), optA_del, if_neg (by unfold nmA; omega), optA_del, if_neg (by unfold nmA; omega)]
     exact ob_inW hg
    ·simp -implicitDefEqProofs (disch := omega) only [↓reduceIte, go_sem, reduceToNat, reduceAdd, reduceLeDiff, reduceEqDiff, reduceSub, reduceMul, reduceCtorEq]
     refine accL (by simp [accsOk, pairsOk, accClash, meets, n0]; refine ⟨⟨?_, ?_⟩, ⟨?_, ?_⟩, ?_, ?_⟩ <;> kernel_rfl) ?_
     have y1 : (3 = nmA b) = False := eq_false (by unfold nmA; omega)
     have y2 : (7 = nmA b) = False := eq_false (by unfold nmA; omega)
     have y3 : (12 = nmA b) = False := eq_false (by unfold nmA; omega)
     have y4 : (1012 = nmA b) = False := eq_false (by unfold nmA; omega)
     have y5 : (1013 = nmA b) = False := eq_false (by unfold nmA; omega)
     have y6 : (1014 = nmA b) = False := eq_false (by unfold nmA; omega)
     have y7 : (1000000000 = nmA b) = False := eq_false (by unfold nmA; omega)
     have y8 : (1000000001 = nmA b) = False := eq_false (by unfold nmA; omega)
     have y9 : (nmA b = nmA b + 1) = False := eq_false (by omega)
     have w1 : (nmA b = 2) = False := eq_false (by unfold nmA; omega)
     have w2 : (nmA b = 6) = False := eq_false (by unfold nmA; omega)
     have w3 : (nmA b = 11) = False := eq_false (by unfold nmA; omega)
     have w4 : (nmA b = 1011) = False := eq_false (by unfold nmA; omega)
     have w5 : (nmA b = 1012) = False := eq_false (by unfold nmA; omega)
     have w6 : (nmA b = 1013) = False := eq_false (by unfold nmA; omega)
     have w7 : (nmA b = 999999999) = False := eq_false (by unfold nmA; omega)
     have w8 : (nmA b = 1000000000) = False := eq_false (by unfold nmA; omega)
     have x1 : (2 = nmA b) = False := eq_false (by unfold nmA; omega)
     have x2 : (6 = nmA b) = False := eq_false (by unfold nmA; omega)
     have x3 : (11 = nmA b) = False := eq_false (by unfold nmA; omega)
     have x4 : (1011 = nmA b) = False := eq_false (by unfold nmA; omega)
     have x7 : (999999999 = nmA b) = False := eq_false (by unfold nmA; omega)
     simp -implicitDefEqProofs (disch := omega) only [↓reduceIte, go_sem, reduceToNat, reduceAdd, reduceLeDiff, reduceEqDiff, reduceSub, reduceMul, reduceCtorEq, y1, y2, y3, y4, y5, y6, y7, y8, y9, w1, w2, w3, w4, w5, w6, w7, w8, x1, x2, x3, x4, x7]
     have hMl : (M.set b (orS (insAt L b) (backS u B.code (outK L r b)), outK L r b)).length = M.length := List.length_set
     have hup := fun j => ob_upIn (n := u.length) (k := j) (a' := orS (insAt L b) (backS u B.code (outK L r b))) hg
     have hio := ob_inB (n := u.length) hg
     have hML : M.length < 1000000 := by omega
     refine dynB (dropSet (k := 1000000000) (w := 1) (n := u.length) (s := backS u B.code (outK L r b)) (rs := [(4, .ref 7 0), (43, .bool (orS (insAt L b) (backS u B.code (outK L r b)) != insAt L b))])
      (objs := stL f v vi vo rg u ch (M.set b (orS (insAt L b) (backS u B.code (outK L r b)), outK L r b))) ?_ ?_ ?_ ?_ ?_ ?_ ?_ ?_) ?_
     ·show optA _ _ = _
      rw [optA_ne (by unfold nmA; omega), optA_ne (by unfold nmA; omega), optA_ne (by omega), optA_hit]
     ·show optA _ _ = _
      rw [optA_ne (by unfold nmA; omega), optA_ne (by unfold nmA; omega), optA_hit]
     ·intro j j1 j2
      show optA _ j = optA _ j
      unfold stL
      rw [hMl]
      generalize objsL u.length 0 (M.set b (orS (insAt L b) (backS u B.code (outK L r b)), outK L r b)) = O2 at hup
      generalize objsL u.length 0 M = O1 at hup hio
      by_cases e1 : j = nmA b + 1
      ·rw [e1, optA_hit, optA_ne (by unfold nmA; omega), optA_ne (by unfold nmA; omega), optA_ne (by unfold nmA; omega), optA_ne (by unfold nmA; omega), optA_ne (by unfold nmA; omega), optA_ne (by unfold nmA; omega), hup, if_pos rfl]
      ·by_cases e2 : j = nmA b
       ·rw [e2, optA_ne (by omega), optA_hit, optA_ne (by unfold nmA; omega), optA_ne (by unfold nmA; omega), optA_ne (by unfold nmA; omega), optA_ne (by unfold nmA; omega), optA_ne (by unfold nmA; omega), optA_ne (by unfold nmA; omega), hup, if_neg (by omega), hio]
       ·have hrest : optA O2 j = optA (delA (delA (delA (delA O1 1000000000) 1000000001) (nmA b)) (nmA b + 1)) j := by
         rw [optA_del, if_neg e1, optA_del, if_neg e2, optA_del, if_neg j2, optA_del, if_neg j1, hup, if_neg e1]
        rw [optA_ne e1, optA_ne e2, optA_ne j2, optA_ne j1]
        simp only [optA, hrest]
     ·rw [ob_stL (by omega)]
      exact ob_high (by rw [hMl]; unfold nmA; omega)
     ·rw [ob_stL (by omega)]
      exact ob_high (by rw [hMl]; unfold nmA; omega)
     ·intro j o kk ob ho hkk
      exact fz_stL (by rw [hMl]; exact hML) ho (.inl (by omega))
     ·intro p hp
      simp only [List.mem_cons, List.not_mem_nil, or_false] at hp
      rcases hp with rfl | rfl <;> (simp -implicitDefEqProofs (disch := omega) only [↓reduceIte, go_sem, reduceToNat, reduceAdd, reduceLeDiff, reduceEqDiff, reduceSub, reduceMul, reduceCtorEq]; try rfl)
     ·intro p hp kk ob hkk
      simp only [List.mem_cons, List.not_mem_nil, or_false] at hp
      rcases hp with rfl | rfl
      ·simp only [fz, beq_ne (show 7 ≠ kk by omega), cond_false]
      ·rfl
     ·rw [hMs]
      simp -implicitDefEqProofs (disch := omega) only [↓reduceIte, go_sem, reduceToNat, reduceAdd, reduceLeDiff, reduceEqDiff, reduceSub, reduceMul, reduceCtorEq]
      refine ifB (fun e => ?_) (fun e => ?_)
      ·unfold stL
       simp -implicitDefEqProofs (disch := omega) only [↓reduceIte, go_sem, reduceToNat, reduceAdd, reduceLeDiff, reduceEqDiff, reduceSub, reduceMul, reduceCtorEq]
       refine ⟨[], rfl, rfl, fun j => ?_⟩
       have ec : stepC u B r L b = true := e
       rw [ec, Bool.or_true]
       by_cases j7 : j = 7
       ·rw [j7]
        rfl
       ·rw [optA_ne j7]
        simp only [optA, beq_ne (show 7 ≠ j by omega), cond_false]
        rw [optA_del, if_neg j7]
        rfl
      ·simp -implicitDefEqProofs (disch := omega) only [↓reduceIte, go_sem, reduceToNat, reduceAdd, reduceLeDiff, reduceEqDiff, reduceSub, reduceMul, reduceCtorEq]
       have ec : stepC u B r L b = false := e
       refine ⟨[], rfl, rfl, fun j => ?_⟩
       rw [ec, Bool.or_false]
       rfl
end Go.Proofs.YtgbmneoeggdaoaaGreatDoor.X
