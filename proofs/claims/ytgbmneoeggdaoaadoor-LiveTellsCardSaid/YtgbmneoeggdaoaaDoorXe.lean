/- Find, In, Contains, Clone, what a block ends with. -/
import Derived.Test.YtgbmneoeggdaoaaDoorXa
import Derived.Test.YtgbmneoeggdaoaaDoorXaso
namespace Go.Proofs.YtgbmneoeggdaoaaDoor.X
open Go Go.AM Go.Proofs
attribute [local go_sem ↓] w_skip w_lbl w_ops w_draw w_pre w_post w_alt w_seq w_cond w_block w_join w_loop w_exit w_ret w_scope w_rfunc l_nil l_cons th_n th_e th_r bk_n bk_r bk_e t_nil t_it t_call t_callg i_nil i_one i_grp s_nil s_cons c_call c_callg e_rar e_dynB e_mv e_nil e_dyn e_nilb e_frz o_mov o_bin o_eq o_un o_conv o_len o_slen o_idx o_aix o_fad o_load o_store o_boxp o_boxo o_boxm o_alloc o_allocm o_alloca o_nilarr o_build o_bslp o_bslo o_slc o_sslc o_slc3 o_sidx o_mkfn o_mkmv o_calle o_bslr o_ridx o_rload o_rapp o_vidx o_ext o_pick o_callf o_callb o_appd o_clear o_mxn o_field o_nilc o_make o_makeb o_buildm o_boxg o_mkif o_tass o_eqs o_callo o_callx k_int k_str k_bool k_grb k_grt k_some k_none k_rar k_arr k_lens k_lenf k_lenh k_lenb k_idxb k_idxs k_idxf k_idxh k_ld k_loadp k_loadr k_loade k_storer k_storee k_oin k_ois k_slcs k_slcf k_slch k_slc3s k_slc3f k_slc3h k_app2 k_apps k_appf k_apph k_cals k_cald k_cali k_cnb k_cna k_esn k_esc k_efn k_efc k_esh b_add b_sub b_mul b_quo b_rem b_and b_or b_xor b_andNot b_eql b_neq b_lss b_leq b_gtr b_geq b_shl b_shr b_seq b_sne b_slt b_sad q_bool q_str q_nil q_nilf u_not u_neg u_xor f_ret f_nor v_r v_c v_g v_reg v_ob v_set v_put v_so v_sn v_pn v_pc g_nil d_nil p_nil m_mv m_fr z_nil z_cons z_an z_ac g_cons d_cons p_cons y_mov y_bin y_eq y_un y_conv y_len y_slen y_idx y_aix y_fad y_load y_store y_boxp y_boxo y_boxm y_alloc y_alloca y_allocm y_nilarr y_build y_bslp y_bslo y_slc y_sslc y_slc3 y_sidx y_mkfn y_ext y_pick y_callf y_callb y_appd y_clear y_mxn y_field y_nilc y_make y_makeb y_buildm y_boxg y_mkif y_tass y_eqs y_callo y_mkmv y_callx y_vidx y_bslr y_ridx y_rload y_rapp y_calle nb_if
attribute [local go_sem] nbd VL_mk VL2_mk If_t If_f If_not If_and If_or If_dt If_df If_et If_ef If_ne Ck_t Ck_h Opt_s ld_a ld_c lm_a lm_c renL ren keepR renA idxM invL getObs mapOb renOb allNone putAll fzR fzO fz fzL fzOb fzB frzOk upFrom mapR resOne resA cellsOf oneA oneAL isP isPL okSt kRows kParts fillA setAt bor bor0 bor1 bor2 borC borI key0 key1 key2 keysA fillM cellsM cellM unif ptrA ifOk kPartsM getObsM allNoneM zipU scal0 scalar eqC evNil evNilF memK keyX hideM xbor scal1 scalX scalOb bndA mkMag showM lendV hideV hideR hideOb hideL hideO showL backO noneO mapA List.map_cons List.map_nil List.cons_append List.nil_append List.append_nil List.drop_zero List.drop_succ_cons List.drop_nil List.take_succ_cons List.take_zero List.take_nil List.length_cons List.length_nil List.length_map List.getElem?_map Option.map_some Option.map_none Int.toNat_natCast Int.toNat_zero Int.toNat_one Int.natCast_nonneg List.flatMap_cons List.flatMap_nil List.all_cons List.all_nil List.any_cons List.any_nil Bool.or_false Bool.false_or Bool.or_true Bool.true_or Bool.and_true Bool.true_and Bool.and_false Bool.false_and Bool.not_true Bool.not_false beq_self_eq_true nb_self all_nil List.forall_mem_cons tk_map tk_app bs_self bs_dec bq_t bq_f Bool.not_not decide_true decide_false Bool.not_not and_self and_true true_and eq_self List.reverse_cons List.reverse_nil List.getElem?_cons_zero List.getElem?_cons_succ cond_true cond_false List.set_cons_zero List.set_cons_succ Nat.zero_add Nat.add_zero if_true if_false ite_true ite_false implies_true wrap64 wrap8
set_option linter.unusedVariables false
set_option linter.unusedSimpArgs false
set_option maxRecDepth 10000
theorem C83 (b : Blk) (l : ByteArray) : Ctr Tryd.prog 83 [.agg (encBk b), .rp [.str l]] [] (ret [.bool (decide (b.label = l))]) := by
 apply ctr_b A83_ok rfl (Nat.le_of_ble_eq_true rfl)
 unfold A83
 simp only [initL, Nat.reduceAdd, encBk]
 simp -implicitDefEqProofs (maxSteps := 2000000) (disch := omega) only [↓reduceIte, go_sem, Int.reduceToNat, Nat.reduceAdd, Nat.reduceLeDiff, Nat.reduceEqDiff, Nat.reduceSub, Nat.reduceMul, reduceCtorEq]
 exact ⟨rfl, rfl⟩
theorem C82 (bs : List Blk) (l : ByteArray) (hl : bs.length < 1000000) : Ctr Tryd.prog 82 [.sl (bs.map encBk), .fn 83 [.rp [.str l]]] [] (ret [.int .i64 (findI bs l)]) := by
 apply ctr_b A82_ok rfl (Nat.le_of_ble_eq_true rfl)
 unfold A82
 simp only [initL, Nat.reduceAdd]
 simp -implicitDefEqProofs (maxSteps := 2000000) (disch := omega) only [↓reduceIte, go_sem, Int.reduceToNat, Nat.reduceAdd, Nat.reduceLeDiff, Nat.reduceEqDiff, Nat.reduceSub, Nat.reduceMul, reduceCtorEq]
 refine loopL (σ := Nat) (fun s => ⟨[(0, .sl (bs.map encBk)), (1, .fn 83 [.rp [.str l]]), (7, .int .i64 bs.length), (8, .int .i64 s)], []⟩) (fun s => s ≤ bs.length ∧ ∀ j, j < s → ∀ c, bs[j]? = some c → c.label ≠ l) (fun s => bs.length - s) 0 (by simp -implicitDefEqProofs (maxSteps := 2000000) (disch := omega) only [↓reduceIte, go_sem, Int.reduceToNat, Nat.reduceAdd, Nat.reduceLeDiff, Nat.reduceEqDiff, Nat.reduceSub, Nat.reduceMul, reduceCtorEq]; rfl) ⟨by omega, fun j hj => by omega⟩ ?_
 rintro s ⟨h1, h2⟩
 simp -implicitDefEqProofs (maxSteps := 2000000) (disch := omega) only [↓reduceIte, go_sem, Int.reduceToNat, Nat.reduceAdd, Nat.reduceLeDiff, Nat.reduceEqDiff, Nat.reduceSub, Nat.reduceMul, reduceCtorEq]
 refine ifD (fun c => ?_) (fun c => ?_)
 ·obtain ⟨b, hb⟩ : ∃ b, bs[s]? = some b := ⟨bs[s], List.getElem?_eq_getElem (by omega)⟩
  simp -implicitDefEqProofs (maxSteps := 2000000) (disch := omega) only [↓reduceIte, go_sem, Int.reduceToNat, Nat.reduceAdd, Nat.reduceLeDiff, Nat.reduceEqDiff, Nat.reduceSub, Nat.reduceMul, reduceCtorEq, hb]
  have hlen : (encBk b).length = 4 := rfl
  simp -implicitDefEqProofs (maxSteps := 2000000) (disch := omega) only [↓reduceIte, go_sem, Int.reduceToNat, Nat.reduceAdd, Nat.reduceLeDiff, Nat.reduceEqDiff, Nat.reduceSub, Nat.reduceMul, reduceCtorEq, hb, hlen]
  have h4 : List.take 4 (encBk b) = encBk b := List.take_of_length_le (by omega)
  simp -implicitDefEqProofs (maxSteps := 2000000) (disch := omega) only [↓reduceIte, go_sem, Int.reduceToNat, Nat.reduceAdd, Nat.reduceLeDiff, Nat.reduceEqDiff, Nat.reduceSub, Nat.reduceMul, reduceCtorEq, h4]
  refine callL (C83 b l) ?_
  simp -implicitDefEqProofs (maxSteps := 2000000) (disch := omega) only [↓reduceIte, go_sem, Int.reduceToNat, Nat.reduceAdd, Nat.reduceLeDiff, Nat.reduceEqDiff, Nat.reduceSub, Nat.reduceMul, reduceCtorEq]
  refine ifD (fun e => ?_) (fun e => ?_)
  ·simp -implicitDefEqProofs (maxSteps := 2000000) (disch := omega) only [↓reduceIte, go_sem, Int.reduceToNat, Nat.reduceAdd, Nat.reduceLeDiff, Nat.reduceEqDiff, Nat.reduceSub, Nat.reduceMul, reduceCtorEq]
   refine ⟨?_, rfl⟩
   rw [findI, findN_of hb e h2]; rfl
  ·simp -implicitDefEqProofs (maxSteps := 2000000) (disch := omega) only [↓reduceIte, go_sem, Int.reduceToNat, Nat.reduceAdd, Nat.reduceLeDiff, Nat.reduceEqDiff, Nat.reduceSub, Nat.reduceMul, reduceCtorEq]
   refine ⟨s + 1, by simp, ⟨by omega, fun j hj c hc => ?_⟩, by omega⟩
   by_cases hjs : j = s
   ·subst hjs; rw [hb] at hc; cases hc; exact e
   ·exact h2 j (by omega) c hc
 ·simp -implicitDefEqProofs (maxSteps := 2000000) (disch := omega) only [↓reduceIte, go_sem, Int.reduceToNat, Nat.reduceAdd, Nat.reduceLeDiff, Nat.reduceEqDiff, Nat.reduceSub, Nat.reduceMul, reduceCtorEq]
  refine ⟨?_, rfl⟩
  rw [findI, findN_none fun j hj => h2 j (by omega)]; rfl
theorem C49 (f : Fnc) (l : ByteArray) (hl : f.blocks.length < 1000000) : Ctr Tryd.prog 49 [.agg (encFn f), .str l] [] (ret [.int .i64 (findI f.blocks l)]) := by
 apply ctr_b A49_ok rfl (Nat.le_of_ble_eq_true rfl)
 unfold A49
 simp only [initL, Nat.reduceAdd, encFn]
 simp -implicitDefEqProofs (maxSteps := 2000000) (disch := omega) only [↓reduceIte, go_sem, Int.reduceToNat, Nat.reduceAdd, Nat.reduceLeDiff, Nat.reduceEqDiff, Nat.reduceSub, Nat.reduceMul, reduceCtorEq]
 refine callL (C82 f.blocks l hl) ?_
 simp -implicitDefEqProofs (maxSteps := 2000000) (disch := omega) only [↓reduceIte, go_sem, Int.reduceToNat, Nat.reduceAdd, Nat.reduceLeDiff, Nat.reduceEqDiff, Nat.reduceSub, Nat.reduceMul, reduceCtorEq]
 exact ⟨rfl, rfl⟩
theorem encK_get {u : List Nat} {s : Nat} (h : s < u.length) : (u.map encK)[s]? = some [.int .i64 (u[s]! : Int)] := by
 rw [List.getElem?_map, List.getElem?_eq_getElem h]
 simp [encK, h]
theorem notin {u : List Nat} {x : Int} (h : ∀ j, j < u.length → ((u[j]! : Nat) : Int) ≠ x) : decide (∃ k ∈ u, (k : Int) = x) = false := by
 rw [decide_eq_false_iff_not]
 rintro ⟨k, hk, rfl⟩
 obtain ⟨j, hj, rfl⟩ := List.getElem_of_mem hk
 exact h j hj (by simp [hj])
theorem C11 (u : List Nat) (x : Int) (hl : u.length < 1000000) : Ctr Tryd.prog 11 [.sl (u.map encK), .int .i64 x] [] (ret [.bool (decide (∃ k ∈ u, (k : Int) = x))]) := by
 apply ctr_b A11_ok rfl (Nat.le_of_ble_eq_true rfl)
 unfold A11
 simp only [initL, Nat.reduceAdd]
 simp -implicitDefEqProofs (maxSteps := 2000000) (disch := omega) only [↓reduceIte, go_sem, Int.reduceToNat, Nat.reduceAdd, Nat.reduceLeDiff, Nat.reduceEqDiff, Nat.reduceSub, Nat.reduceMul, reduceCtorEq]
 refine loopL (σ := Nat) (fun s => ⟨[(0, .sl (u.map encK)), (1, .int .i64 x), (5, .int .i64 s)], []⟩) (fun s => s ≤ u.length ∧ ∀ j, j < s → ((u[j]! : Nat) : Int) ≠ x) (fun s => u.length - s) 0 (by simp -implicitDefEqProofs (maxSteps := 2000000) (disch := omega) only [↓reduceIte, go_sem, Int.reduceToNat, Nat.reduceAdd, Nat.reduceLeDiff, Nat.reduceEqDiff, Nat.reduceSub, Nat.reduceMul, reduceCtorEq]; rfl) ⟨by omega, fun j hj => by omega⟩ ?_
 rintro s ⟨h1, h2⟩
 simp -implicitDefEqProofs (maxSteps := 2000000) (disch := omega) only [↓reduceIte, go_sem, Int.reduceToNat, Nat.reduceAdd, Nat.reduceLeDiff, Nat.reduceEqDiff, Nat.reduceSub, Nat.reduceMul, reduceCtorEq]
 refine ifD (fun c => ?_) (fun c => ?_)
 ·have hs : s < u.length := by omega
  have hg := encK_get hs
  simp -implicitDefEqProofs (maxSteps := 2000000) (disch := omega) only [↓reduceIte, go_sem, Int.reduceToNat, Nat.reduceAdd, Nat.reduceLeDiff, Nat.reduceEqDiff, Nat.reduceSub, Nat.reduceMul, reduceCtorEq, hg]
  refine ifE (fun e => ?_) (fun e => ?_)
  ·simp -implicitDefEqProofs (maxSteps := 2000000) (disch := omega) only [↓reduceIte, go_sem, Int.reduceToNat, Nat.reduceAdd, Nat.reduceLeDiff, Nat.reduceEqDiff, Nat.reduceSub, Nat.reduceMul, reduceCtorEq]
   refine ⟨?_, rfl⟩
   rw [show decide (∃ k ∈ u, (k : Int) = x) = true from decide_eq_true ⟨u[s]!, by simp [hs], e⟩]
  ·simp -implicitDefEqProofs (maxSteps := 2000000) (disch := omega) only [↓reduceIte, go_sem, Int.reduceToNat, Nat.reduceAdd, Nat.reduceLeDiff, Nat.reduceEqDiff, Nat.reduceSub, Nat.reduceMul, reduceCtorEq]
   refine ⟨s + 1, by simp, ⟨by omega, fun j hj => ?_⟩, by omega⟩
   by_cases hjs : j = s
   ·subst hjs; exact e
   ·exact h2 j (by omega)
 ·simp -implicitDefEqProofs (maxSteps := 2000000) (disch := omega) only [↓reduceIte, go_sem, Int.reduceToNat, Nat.reduceAdd, Nat.reduceLeDiff, Nat.reduceEqDiff, Nat.reduceSub, Nat.reduceMul, reduceCtorEq]
  exact ⟨by rw [notin fun j hj => h2 j (by omega)], rfl⟩
/-- The first place of a number. -/
def idxI (u : List Nat) (x : Int) : Int := optZ (u.findIdx? fun (k : Nat) => decide ((k : Int) = x))
theorem idxI_of {u : List Nat} {x : Int} {s : Nat} (hs : s < u.length) (e : ((u[s]! : Nat) : Int) = x) (h : ∀ j, j < s → ((u[j]! : Nat) : Int) ≠ x) : idxI u x = s := by
 have : u.findIdx? (fun (k : Nat) => decide ((k : Int) = x)) = some s := by
  rw [List.findIdx?_eq_some_iff_getElem]
  refine ⟨hs, by simpa [hs] using e, fun j hj => ?_⟩
  have := h j hj
  simp [show j < u.length by omega] at this
  simpa using this
 rw [idxI, this]; rfl
theorem idxI_none {u : List Nat} {x : Int} (h : ∀ j, j < u.length → ((u[j]! : Nat) : Int) ≠ x) : idxI u x = -1 := by
 have : u.findIdx? (fun (k : Nat) => decide ((k : Int) = x)) = none := by
  rw [List.findIdx?_eq_none_iff]
  intro k hk
  obtain ⟨j, hj, rfl⟩ := List.getElem_of_mem hk
  have := h j hj
  simp [hj] at this
  simpa using this
 rw [idxI, this]; rfl
theorem idxI_ge (u : List Nat) (x : Int) : decide (0 ≤ idxI u x) = decide (∃ k ∈ u, (k : Int) = x) := by
 unfold idxI
 cases h : u.findIdx? fun (k : Nat) => decide ((k : Int) = x) with
 | none =>
  rw [List.findIdx?_eq_none_iff] at h
  have h2 : ¬ ∃ k ∈ u, (k : Int) = x := fun ⟨k, hk, e⟩ => absurd e (by simpa using h k hk)
  rw [decide_eq_false h2]
  rfl
 | some i =>
  rw [List.findIdx?_eq_some_iff_getElem] at h
  obtain ⟨hi, he, _⟩ := h
  have h2 : ∃ k ∈ u, (k : Int) = x := ⟨u[i], List.getElem_mem hi, by simpa using he⟩
  rw [decide_eq_true h2]
  exact decide_eq_true (Int.natCast_nonneg i)
theorem C84 (u : List Nat) (x : Int) (hl : u.length < 1000000) : Ctr Tryd.prog 84 [.sl (u.map encK), .int .i64 x] [] (ret [.int .i64 (idxI u x)]) := by
 apply ctr_b A84_ok rfl (Nat.le_of_ble_eq_true rfl)
 unfold A84
 simp only [initL, Nat.reduceAdd]
 simp -implicitDefEqProofs (maxSteps := 2000000) (disch := omega) only [↓reduceIte, go_sem, Int.reduceToNat, Nat.reduceAdd, Nat.reduceLeDiff, Nat.reduceEqDiff, Nat.reduceSub, Nat.reduceMul, reduceCtorEq]
 refine loopL (σ := Nat) (fun s => ⟨[(0, .sl (u.map encK)), (1, .int .i64 x), (7, .int .i64 u.length), (8, .int .i64 s)], []⟩) (fun s => s ≤ u.length ∧ ∀ j, j < s → ((u[j]! : Nat) : Int) ≠ x) (fun s => u.length - s) 0 (by simp -implicitDefEqProofs (maxSteps := 2000000) (disch := omega) only [↓reduceIte, go_sem, Int.reduceToNat, Nat.reduceAdd, Nat.reduceLeDiff, Nat.reduceEqDiff, Nat.reduceSub, Nat.reduceMul, reduceCtorEq]; rfl) ⟨by omega, fun j hj => by omega⟩ ?_
 rintro s ⟨h1, h2⟩
 simp -implicitDefEqProofs (maxSteps := 2000000) (disch := omega) only [↓reduceIte, go_sem, Int.reduceToNat, Nat.reduceAdd, Nat.reduceLeDiff, Nat.reduceEqDiff, Nat.reduceSub, Nat.reduceMul, reduceCtorEq]
 refine ifD (fun c => ?_) (fun c => ?_)
 ·have hs : s < u.length := by omega
  have hg := encK_get hs
  simp -implicitDefEqProofs (maxSteps := 2000000) (disch := omega) only [↓reduceIte, go_sem, Int.reduceToNat, Nat.reduceAdd, Nat.reduceLeDiff, Nat.reduceEqDiff, Nat.reduceSub, Nat.reduceMul, reduceCtorEq, hg]
  refine ifE (fun e => ?_) (fun e => ?_)
  ·simp -implicitDefEqProofs (maxSteps := 2000000) (disch := omega) only [↓reduceIte, go_sem, Int.reduceToNat, Nat.reduceAdd, Nat.reduceLeDiff, Nat.reduceEqDiff, Nat.reduceSub, Nat.reduceMul, reduceCtorEq]
   exact ⟨by rw [idxI_of hs e.symm h2], rfl⟩
  ·simp -implicitDefEqProofs (maxSteps := 2000000) (disch := omega) only [↓reduceIte, go_sem, Int.reduceToNat, Nat.reduceAdd, Nat.reduceLeDiff, Nat.reduceEqDiff, Nat.reduceSub, Nat.reduceMul, reduceCtorEq]
   refine ⟨s + 1, by simp, ⟨by omega, fun j hj => ?_⟩, by omega⟩
   by_cases hjs : j = s
   ·subst hjs; exact fun h => e h.symm
   ·exact h2 j (by omega)
 ·simp -implicitDefEqProofs (maxSteps := 2000000) (disch := omega) only [↓reduceIte, go_sem, Int.reduceToNat, Nat.reduceAdd, Nat.reduceLeDiff, Nat.reduceEqDiff, Nat.reduceSub, Nat.reduceMul, reduceCtorEq]
  exact ⟨by rw [idxI_none fun j hj => h2 j (by omega)], rfl⟩
theorem C50 (u : List Nat) (x : Int) (hl : u.length < 1000000) : Ctr Tryd.prog 50 [.sl (u.map encK), .int .i64 x] [] (ret [.bool (decide (∃ k ∈ u, (k : Int) = x))]) := by
 apply ctr_b A50_ok rfl (Nat.le_of_ble_eq_true rfl)
 unfold A50
 simp only [initL, Nat.reduceAdd]
 simp -implicitDefEqProofs (maxSteps := 2000000) (disch := omega) only [↓reduceIte, go_sem, Int.reduceToNat, Nat.reduceAdd, Nat.reduceLeDiff, Nat.reduceEqDiff, Nat.reduceSub, Nat.reduceMul, reduceCtorEq]
 refine callL (C84 u x hl) ?_
 simp -implicitDefEqProofs (maxSteps := 2000000) (disch := omega) only [↓reduceIte, go_sem, Int.reduceToNat, Nat.reduceAdd, Nat.reduceLeDiff, Nat.reduceEqDiff, Nat.reduceSub, Nat.reduceMul, reduceCtorEq]
 have := idxI_ge u x
 simp -implicitDefEqProofs (maxSteps := 2000000) (disch := omega) only [↓reduceIte, go_sem, Int.reduceToNat, Nat.reduceAdd, Nat.reduceLeDiff, Nat.reduceEqDiff, Nat.reduceSub, Nat.reduceMul, reduceCtorEq, this]
 exact ⟨rfl, rfl⟩
theorem C86 (u : List Nat) (hl : u.length < 1000000) : Ctr Tryd.prog 86 [.sl (u.map encK)] [] (ret [.sl (u.map encK)]) := by
 apply ctr_b A86_ok rfl (Nat.le_of_ble_eq_true rfl)
 unfold A86
 simp only [initL, Nat.reduceAdd]
 have hall : (∀ c ∈ u.map encK, c.length = 1) = True := by simp [encK]
 have hlen : (u.map encK).length = u.length := by simp
 cases u with
 | nil =>
  simp -implicitDefEqProofs (maxSteps := 2000000) (disch := omega) only [↓reduceIte, go_sem, Int.reduceToNat, Nat.reduceAdd, Nat.reduceLeDiff, Nat.reduceEqDiff, Nat.reduceSub, Nat.reduceMul, reduceCtorEq]
  exact ⟨rfl, rfl⟩
 | cons k r =>
  simp only [List.map_cons] at hall
  simp only [List.length_cons] at hl
  simp -implicitDefEqProofs (maxSteps := 2000000) (disch := omega) only [↓reduceIte, go_sem, Int.reduceToNat, Nat.reduceAdd, Nat.reduceLeDiff, Nat.reduceEqDiff, Nat.reduceSub, Nat.reduceMul, reduceCtorEq, hall]
  exact ⟨rfl, rfl⟩
theorem C81 (n : Int) : Ctr Tryd.prog 81 [.int .i64 n] [] (ret [.bool (decide (20 ≤ n ∧ n ≤ 23))]) := by
 apply ctr_b A81_ok rfl (Nat.le_of_ble_eq_true rfl)
 unfold A81
 simp only [initL, Nat.reduceAdd]
 simp -implicitDefEqProofs (maxSteps := 2000000) (disch := omega) only [↓reduceIte, go_sem, Int.reduceToNat, Nat.reduceAdd, Nat.reduceLeDiff, Nat.reduceEqDiff, Nat.reduceSub, Nat.reduceMul, reduceCtorEq]
 refine ifD (fun h => ?_) (fun h => ?_)
 ·simp -implicitDefEqProofs (maxSteps := 2000000) (disch := omega) only [↓reduceIte, go_sem, Int.reduceToNat, Nat.reduceAdd, Nat.reduceLeDiff, Nat.reduceEqDiff, Nat.reduceSub, Nat.reduceMul, reduceCtorEq]
  refine ⟨?_, rfl⟩
  congr 1
  simp
  omega
 ·simp -implicitDefEqProofs (maxSteps := 2000000) (disch := omega) only [↓reduceIte, go_sem, Int.reduceToNat, Nat.reduceAdd, Nat.reduceLeDiff, Nat.reduceEqDiff, Nat.reduceSub, Nat.reduceMul, reduceCtorEq]
  refine ⟨?_, rfl⟩
  congr 1
  simp
  omega
/-- What a block ends with, and whether it may. -/
def insZ : Ins := ⟨0, ⟨0, 0, 0, 0⟩, [], .empty, 0, [], []⟩
def lastP (b : Blk) : Ins × Bool := match b.code.getLast? with | some i => (i, decide (20 ≤ i.op ∧ i.op ≤ 23)) | none => (insZ, false)
theorem C48 (b : Blk) (hl : b.code.length ≤ 9223372036854775807) : Ctr Tryd.prog 48 [.agg (encBk b)] [] (ret [.agg (encIn (lastP b).1), .bool (lastP b).2]) := by
 apply ctr_b A48_ok rfl (Nat.le_of_ble_eq_true rfl)
 unfold A48
 simp only [initL, Nat.reduceAdd, encBk]
 simp -implicitDefEqProofs (maxSteps := 2000000) (disch := omega) only [↓reduceIte, go_sem, Int.reduceToNat, Nat.reduceAdd, Nat.reduceLeDiff, Nat.reduceEqDiff, Nat.reduceSub, Nat.reduceMul, reduceCtorEq]
 refine ifE (fun e => ?_) (fun e => ?_)
 ·have h0 : b.code = [] := List.eq_nil_of_length_eq_zero (by omega)
  simp -implicitDefEqProofs (maxSteps := 2000000) (disch := omega) only [↓reduceIte, go_sem, Int.reduceToNat, Nat.reduceAdd, Nat.reduceLeDiff, Nat.reduceEqDiff, Nat.reduceSub, Nat.reduceMul, reduceCtorEq]
  refine ⟨?_, rfl⟩
  simp [lastP, h0, insZ, encIn]
 ·have h0 : b.code ≠ [] := fun h => e (by rw [h]; rfl)
  have hp : 0 < b.code.length := List.length_pos_iff.2 h0
  obtain ⟨i, hi⟩ : ∃ i, b.code[b.code.length - 1]? = some i := ⟨_, List.getElem?_eq_getElem (by omega)⟩
  have hgl : b.code.getLast? = some i := by rw [List.getLast?_eq_getElem?, hi]
  have hw : IntKind.i64.wrap ((b.code.length : Int) - 1) = ((b.code.length - 1 : Nat) : Int) := by rw [wrap64 (by omega) (by omega)]; omega
  simp -implicitDefEqProofs (maxSteps := 2000000) (disch := omega) only [↓reduceIte, go_sem, Int.reduceToNat, Nat.reduceAdd, Nat.reduceLeDiff, Nat.reduceEqDiff, Nat.reduceSub, Nat.reduceMul, reduceCtorEq, hw, hi, encIn]
  refine callL (C81 i.op) ?_
  simp -implicitDefEqProofs (maxSteps := 2000000) (disch := omega) only [↓reduceIte, go_sem, Int.reduceToNat, Nat.reduceAdd, Nat.reduceLeDiff, Nat.reduceEqDiff, Nat.reduceSub, Nat.reduceMul, reduceCtorEq]
  refine accL (by kernel_rfl) ?_
  simp -implicitDefEqProofs (maxSteps := 2000000) (disch := omega) only [↓reduceIte, go_sem, Int.reduceToNat, Nat.reduceAdd, Nat.reduceLeDiff, Nat.reduceEqDiff, Nat.reduceSub, Nat.reduceMul, reduceCtorEq]
  refine ⟨?_, rfl⟩
  simp [lastP, hgl, encIn]
/- graph.New. -/
def rowsF (n : Nat) (g : Nat → List Nat) : List (List Nat) := (List.range n).map g
theorem rowsF_len {n : Nat} {g : Nat → List Nat} : (rowsF n g).length = n := by simp [rowsF]
theorem rowsF_get {n i : Nat} {g : Nat → List Nat} (h : i < n) : (rowsF n g)[i]? = some (g i) := by simp [rowsF, h]
theorem rowsF_congr {n : Nat} {g g' : Nat → List Nat} (h : ∀ i, i < n → g i = g' i) : rowsF n g = rowsF n g' := List.map_congr_left fun i hi => h i (List.mem_range.1 hi)
theorem rowsF_set {n i : Nat} {g : Nat → List Nat} {x : List Nat} : (rowsF n g).set i x = rowsF n (fun j => if j = i then x else g j) := by
 apply List.ext_getElem?
 intro k
 rw [List.getElem?_set]
 by_cases hk : k < n
 ·rw [rowsF_get hk, rowsF_get hk]
  by_cases h : k = i
  ·subst h
   simp [rowsF_len, hk]
  ·rw [if_neg (Ne.symm h), if_neg h]
 ·have e1 : (rowsF n g)[k]? = none := List.getElem?_eq_none (by rw [rowsF_len]; omega)
  have e2 : (rowsF n (fun j => if j = i then x else g j))[k]? = none := List.getElem?_eq_none (by rw [rowsF_len]; omega)
  rw [e1, e2]
  split
  ·rw [if_neg (by rw [rowsF_len]; omega)]
  ·rfl
def sG (bs : List Blk) (s : Nat) (cur : List Nat) (i : Nat) : List Nat := if i < s then (succF bs).getD i [] else if i = s then cur else []
def pG (bs : List Blk) (s : Nat) (cur : List Nat) (t : Nat) : List Nat := ((List.range s).filter fun i => decide (t ∈ (succF bs).getD i [])) ++ (if t ∈ cur then [s] else [])
theorem sG_zero {bs : List Blk} {i : Nat} : sG bs 0 [] i = [] := by unfold sG; simp
theorem pG_zero {bs : List Blk} {i : Nat} : pG bs 0 [] i = [] := by unfold pG; simp
theorem sG_next {bs : List Blk} {s i : Nat} : sG bs s ((succF bs).getD s []) i = sG bs (s + 1) [] i := by
 unfold sG
 by_cases h : i < s
 ·rw [if_pos h, if_pos (by omega)]
 ·rw [if_neg h]
  by_cases h2 : i = s
  ·subst h2
   rw [if_pos rfl, if_pos (by omega)]
  ·rw [if_neg h2, if_neg (by omega)]
   split <;> rfl
theorem pG_next {bs : List Blk} {s t : Nat} : pG bs s ((succF bs).getD s []) t = pG bs (s + 1) [] t := by
 unfold pG
 rw [List.range_succ, List.filter_append]
 simp only [List.filter_cons, List.filter_nil, List.not_mem_nil, if_false, List.append_nil]
 by_cases h : t ∈ (succF bs).getD s []
 ·simp [h]
 ·simp [h]
theorem sG_set {bs : List Blk} {s x j : Nat} {cur : List Nat} : (if j = s then cur ++ [x] else sG bs s cur j) = sG bs s (cur ++ [x]) j := by
 unfold sG
 by_cases h : j = s
 ·subst h; simp
 ·rw [if_neg h, if_neg h, if_neg h]
theorem pG_set {bs : List Blk} {s x j : Nat} {cur : List Nat} (hx : x ∉ cur) : (if j = x then pG bs s cur x ++ [s] else pG bs s cur j) = pG bs s (cur ++ [x]) j := by
 unfold pG
 by_cases h : j = x
 ·subst h
  simp [hx]
 ·rw [if_neg h]
  simp [h]
theorem rows_done (bs : List Blk) : rowsF bs.length (sG bs bs.length []) = succF bs := by
 apply List.ext_getElem?
 intro k
 by_cases hk : k < bs.length
 ·rw [rowsF_get hk]
  unfold sG
  rw [if_pos hk]
  simp [succF, hk]
 ·have e1 : (rowsF bs.length (sG bs bs.length []))[k]? = none := List.getElem?_eq_none (by rw [rowsF_len]; omega)
  have e2 : (succF bs)[k]? = none := List.getElem?_eq_none (by simp [succF]; omega)
  rw [e1, e2]
theorem preds_done (bs : List Blk) : rowsF bs.length (pG bs bs.length []) = predF (succF bs) := by
 unfold predF
 have : (succF bs).length = bs.length := by simp [succF]
 rw [this]
 refine rowsF_congr fun i hi => ?_
 unfold pG predR
 rw [this]
 simp
def outG (f : Fnc) (n s : Nat) (S P : List (List Nat)) : St := ⟨[(1, .rp (encFn f)), (3, .ref 20 0), (22, .sl (f.blocks.map encBk)), (23, .int .i64 (n : Int)), (24, .int .i64 (s : Int))],
 (20, .box [.bs 14 0 n, .bs 18 0 n]) :: (14, .box (cellsR 1000 0 S)) :: (18, .box (cellsR 1001 0 P)) :: tailR S P⟩
def inG (f : Fnc) (n s : Nat) (lb : List ByteArray) (j : Nat) (S P : List (List Nat)) : St := ⟨[(1, .rp (encFn f)), (3, .ref 20 0), (4, .int .i64 (s : Int)), (22, .sl (f.blocks.map encBk)), (23, .int .i64 (n : Int)), (24, .int .i64 (s : Int)), (37, .sl (lb.map encSt)), (38, .int .i64 (lb.length : Int)), (39, .int .i64 (j : Int))],
 (20, .box [.bs 14 0 n, .bs 18 0 n]) :: (14, .box (cellsR 1000 0 S)) :: (18, .box (cellsR 1001 0 P)) :: tailR S P⟩
theorem rowsF_nil {n : Nat} {g : Nat → List Nat} (h : ∀ i, g i = []) : rowsF n g = List.replicate n [] := by
 apply List.ext_getElem?
 intro k
 by_cases hk : k < n
 ·rw [rowsF_get hk, h]; simp [hk]
 ·have e1 : (rowsF n g)[k]? = none := List.getElem?_eq_none (by rw [rowsF_len]; omega)
  rw [e1]
  simp [hk]
theorem lastP_labels {b : Blk} (e : (lastP b).2 = true) : labelsOf b = (lastP b).1.labels := by
 unfold lastP at e ⊢
 unfold labelsOf lastOp
 cases hx : b.code.getLast? with
 | none => rw [hx] at e; cases e
 | some i => rw [hx] at e; simp at e; simp; rw [if_pos e]
theorem lastP_len {b : Blk} (h : b.code.length ≤ 9223372036854775807 ∧ ∀ i ∈ b.code, i.labels.length ≤ 9223372036854775807) (e : (lastP b).2 = true) : (lastP b).1.labels.length ≤ 9223372036854775807 := by
 unfold lastP at e ⊢
 cases hx : b.code.getLast? with
 | none => rw [hx] at e; cases e
 | some i => exact h.2 i (List.mem_of_getLast? hx)
theorem pG_len {bs : List Blk} {s x n : Nat} {cur : List Nat} (hs : s ≤ n) (h : s < n) : (pG bs s cur x).length ≤ n := by
 unfold pG
 rw [List.length_append]
 have h1 := List.length_filter_le (fun i => decide (x ∈ (succF bs).getD i [])) (List.range s)
 rw [List.length_range] at h1
 split <;> simp only [List.length_cons, List.length_nil] <;> omega
theorem C24 (f : Fnc) (hl : f.blocks.length < 1000000) (hc : ∀ b ∈ f.blocks, b.code.length ≤ 9223372036854775807 ∧ ∀ i ∈ b.code, i.labels.length ≤ 9223372036854775807) : Ctr Tryd.prog 24 [.agg (encFn f)] [] (ret [grP (succF f.blocks) (predF (succF f.blocks))]) := by
 apply ctr_b A24_ok rfl (Nat.le_of_ble_eq_true rfl)
 unfold A24
 simp only [initL, Nat.reduceAdd]
 simp -implicitDefEqProofs (maxSteps := 2000000) (disch := omega) only [↓reduceIte, go_sem, Int.reduceToNat, Nat.reduceAdd, Nat.reduceLeDiff, Nat.reduceEqDiff, Nat.reduceSub, Nat.reduceMul, reduceCtorEq, encFn]
 refine ckL ⟨Nat.le_of_ble_eq_true rfl, fun i hi => ⟨rfl, by omega⟩⟩ ?_
 have hN : optA (delA (putsO [] (rowOs 1000 2 1 0 f.blocks.length)) 14) 18 = none := by
  rw [optA_del, if_neg (by omega), rowOs_eq, optA_putsO, optA_objsR, if_neg (by omega)]
  rfl
 simp -implicitDefEqProofs (maxSteps := 2000000) (disch := omega) only [↓reduceIte, go_sem, Int.reduceToNat, Nat.reduceAdd, Nat.reduceLeDiff, Nat.reduceEqDiff, Nat.reduceSub, Nat.reduceMul, reduceCtorEq, puts_mk, hN]
 refine ckL ⟨Nat.le_of_ble_eq_true rfl, fun i hi => ⟨?_, by omega⟩⟩ ?_
 ·show optA ((14, _) :: delA (putsO [] (rowOs 1000 2 1 0 f.blocks.length)) 14) (1001 + 2 * i) = none
  rw [optA, beq_ne (by omega), cond_false, optA_del, if_neg (by omega), rowOs_eq, optA_putsO, optA_objsR, if_neg (by omega)]
  rfl
 simp -implicitDefEqProofs (maxSteps := 2000000) (disch := omega) only [↓reduceIte, go_sem, Int.reduceToNat, Nat.reduceAdd, Nat.reduceLeDiff, Nat.reduceEqDiff, Nat.reduceSub, Nat.reduceMul, reduceCtorEq, puts_mk]
 have hN2 : optA (delA (putsO ((14, Ob.box (mkbC (some (1000, 2, 1)) AV.dead f.blocks.length)) :: delA (putsO [] (rowOs 1000 2 1 0 f.blocks.length)) 14) (rowOs 1001 2 1 0 f.blocks.length)) 18) 20 = none := by
  simp only [rowOs_eq]
  rw [optA_del, if_neg (by omega), optA_putsO, optA_objsR, if_neg (by omega), optA, beq_ne (by omega), cond_false, optA_del, if_neg (by omega), optA_putsO, optA_objsR, if_neg (by omega)]
  rfl
 simp -implicitDefEqProofs (maxSteps := 2000000) (disch := omega) only [↓reduceIte, go_sem, Int.reduceToNat, Nat.reduceAdd, Nat.reduceLeDiff, Nat.reduceEqDiff, Nat.reduceSub, Nat.reduceMul, reduceCtorEq, hN2]
 refine accL (by simp [accsOk, pairsOk, acc_two, acc_n0, acc_0n]) ?_
 simp -implicitDefEqProofs (maxSteps := 2000000) (disch := omega) only [↓reduceIte, go_sem, Int.reduceToNat, Nat.reduceAdd, Nat.reduceLeDiff, Nat.reduceEqDiff, Nat.reduceSub, Nat.reduceMul, reduceCtorEq, encFn, puts_mk]
 have h0S : rowsF f.blocks.length (sG f.blocks 0 []) = List.replicate f.blocks.length [] := rowsF_nil fun i => sG_zero
 have h0P : rowsF f.blocks.length (pG f.blocks 0 []) = List.replicate f.blocks.length [] := rowsF_nil fun i => pG_zero
 refine loopD (σ := Nat) (fun s => outG f f.blocks.length s (rowsF f.blocks.length (sG f.blocks s [])) (rowsF f.blocks.length (pG f.blocks s []))) (fun s => s ≤ f.blocks.length) (fun s => f.blocks.length - s) 0 ?_ (Nat.zero_le _) ?_
 ·refine .drop .refl (reg_sub ?_) fun k => ?_
  ·intro p hp
   simp only [List.mem_cons, List.not_mem_nil, or_false] at hp
   rcases hp with rfl | rfl | rfl | rfl | rfl <;> (simp -implicitDefEqProofs (maxSteps := 2000000) (disch := omega) only [↓reduceIte, go_sem, Int.reduceToNat, Nat.reduceAdd, Nat.reduceLeDiff, Nat.reduceEqDiff, Nat.reduceSub, Nat.reduceMul, reduceCtorEq, encFn]; try rfl)
  ·rw [h0S, h0P]
   exact start_ob
 ·intro s hs
  have hSl : (rowsF f.blocks.length (sG f.blocks s [])).length = f.blocks.length := rowsF_len
  simp -implicitDefEqProofs (maxSteps := 2000000) (disch := omega) only [↓reduceIte, go_sem, Int.reduceToNat, Nat.reduceAdd, Nat.reduceLeDiff, Nat.reduceEqDiff, Nat.reduceSub, Nat.reduceMul, reduceCtorEq, outG]
  refine ifD (fun c => ?_) (fun c => ?_)
  ·obtain ⟨b, hb⟩ : ∃ b, f.blocks[s]? = some b := ⟨_, List.getElem?_eq_getElem (by omega)⟩
   have hbm := List.mem_of_getElem? hb
   simp -implicitDefEqProofs (maxSteps := 2000000) (disch := omega) only [↓reduceIte, go_sem, Int.reduceToNat, Nat.reduceAdd, Nat.reduceLeDiff, Nat.reduceEqDiff, Nat.reduceSub, Nat.reduceMul, reduceCtorEq, outG, hb, encBk, tail_low, tail_del, tail_fz, cells_fz]
   refine callL (C48 b (hc b hbm).1) ?_
   simp -implicitDefEqProofs (maxSteps := 2000000) (disch := omega) only [↓reduceIte, go_sem, Int.reduceToNat, Nat.reduceAdd, Nat.reduceLeDiff, Nat.reduceEqDiff, Nat.reduceSub, Nat.reduceMul, reduceCtorEq, encIn, tail_low, tail_del, tail_fz, cells_fz]
   have hsg : (succF f.blocks).getD s [] = succB f.blocks b := by simp [succF, hb]
   have hend : ∀ cur, cur = (succF f.blocks).getD s [] → rowsF f.blocks.length (sG f.blocks s cur) = rowsF f.blocks.length (sG f.blocks (s + 1) []) ∧ rowsF f.blocks.length (pG f.blocks s cur) = rowsF f.blocks.length (pG f.blocks (s + 1) []) := fun cur e => by
    subst e
    exact ⟨rowsF_congr fun i _ => sG_next, rowsF_congr fun i _ => pG_next⟩
   refine ifL (fun e => ?_) (fun e => ?_)
   ·simp -implicitDefEqProofs (maxSteps := 2000000) (disch := omega) only [↓reduceIte, go_sem, Int.reduceToNat, Nat.reduceAdd, Nat.reduceLeDiff, Nat.reduceEqDiff, Nat.reduceSub, Nat.reduceMul, reduceCtorEq, encIn, tail_low, tail_del, tail_fz, cells_fz]
    have hlb := lastP_labels e
    have hlm : (lastP b).1.labels.length ≤ 9223372036854775807 := lastP_len (hc b hbm) e
    generalize (lastP b).1.labels = lb at hlb hlm ⊢
    refine loopD (σ := Nat) (fun j => inG f f.blocks.length s lb j (rowsF f.blocks.length (sG f.blocks s ((lb.take j).foldl (stepL f.blocks) []))) (rowsF f.blocks.length (pG f.blocks s ((lb.take j).foldl (stepL f.blocks) [])))) (fun j => j ≤ lb.length) (fun j => lb.length - j) 0 ?_ (Nat.zero_le _) ?_
    ·refine .drop .refl (reg_sub ?_) fun k => rfl
     intro p hp
     simp only [List.mem_cons, List.not_mem_nil, or_false] at hp
     rcases hp with rfl | rfl | rfl | rfl | rfl | rfl | rfl | rfl | rfl <;> (simp -implicitDefEqProofs (maxSteps := 2000000) (disch := omega) only [↓reduceIte, go_sem, Int.reduceToNat, Nat.reduceAdd, Nat.reduceLeDiff, Nat.reduceEqDiff, Nat.reduceSub, Nat.reduceMul, reduceCtorEq, encFn]; try rfl)
    ·intro j hj
     simp -implicitDefEqProofs (maxSteps := 2000000) (disch := omega) only [↓reduceIte, go_sem, Int.reduceToNat, Nat.reduceAdd, Nat.reduceLeDiff, Nat.reduceEqDiff, Nat.reduceSub, Nat.reduceMul, reduceCtorEq, inG]
     refine ifD (fun c2 => ?_) (fun c2 => ?_)
     ·obtain ⟨l, hl2⟩ : ∃ l, lb[j]? = some l := ⟨_, List.getElem?_eq_getElem (by omega)⟩
      have hcur : ∀ x ∈ (lb.take j).foldl (stepL f.blocks) [], x < f.blocks.length := foldl_inv (P := fun l => ∀ x ∈ l, x < f.blocks.length) (fun _ _ h => stepL_lt h) _ _ (fun x hx => by cases hx)
      have hnd : ((lb.take j).foldl (stepL f.blocks) []).Nodup := foldl_inv (P := List.Nodup) (fun _ _ h => stepL_nodup h) _ _ List.nodup_nil
      have hclen := nodup_le hnd hcur
      have hstep : (lb.take (j + 1)).foldl (stepL f.blocks) [] = stepL f.blocks ((lb.take j).foldl (stepL f.blocks) []) l := by
       rw [snoc_take hl2, List.foldl_append]; rfl
      generalize (lb.take j).foldl (stepL f.blocks) [] = cur at hcur hnd hclen hstep ⊢
      have hS : (rowsF f.blocks.length (sG f.blocks s cur))[s]? = some cur := by
       rw [rowsF_get (by omega)]
       simp [sG]
      have hSs : ∀ x, (rowsF f.blocks.length (sG f.blocks s cur)).set s (cur ++ [x]) = rowsF f.blocks.length (sG f.blocks s (cur ++ [x])) := fun x => by
       rw [rowsF_set]
       exact rowsF_congr fun i _ => sG_set
      have hPs : ∀ x, x ∉ cur → (rowsF f.blocks.length (pG f.blocks s cur)).set x (pG f.blocks s cur x ++ [s]) = rowsF f.blocks.length (pG f.blocks s (cur ++ [x])) := fun x hx => by
       rw [rowsF_set]
       exact rowsF_congr fun i _ => pG_set hx
      have hPg : ∀ x, x < f.blocks.length → (rowsF f.blocks.length (pG f.blocks s cur))[x]? = some (pG f.blocks s cur x) := fun x hx => rowsF_get hx
      have hPl : ∀ x, (pG f.blocks s cur x).length ≤ f.blocks.length := fun x => pG_len hs (by omega)
      have hSlen : (rowsF f.blocks.length (sG f.blocks s cur)).length = f.blocks.length := rowsF_len
      have hPlen : (rowsF f.blocks.length (pG f.blocks s cur)).length = f.blocks.length := rowsF_len
      generalize hSe : rowsF f.blocks.length (sG f.blocks s cur) = S at hS hSs hSlen ⊢
      generalize hPe : rowsF f.blocks.length (pG f.blocks s cur) = P at hPs hPg hPlen ⊢
      simp -implicitDefEqProofs (maxSteps := 2000000) (disch := omega) only [↓reduceIte, go_sem, Int.reduceToNat, Nat.reduceAdd, Nat.reduceLeDiff, Nat.reduceEqDiff, Nat.reduceSub, Nat.reduceMul, reduceCtorEq, inG, hl2, encSt, encFn]
      refine callL (C49 f l hl) ?_
      simp -implicitDefEqProofs (maxSteps := 2000000) (disch := omega) only [↓reduceIte, go_sem, Int.reduceToNat, Nat.reduceAdd, Nat.reduceLeDiff, Nat.reduceEqDiff, Nat.reduceSub, Nat.reduceMul, reduceCtorEq, inG, hl2, encSt, encFn]
      cases hf : findN f.blocks l with
      | none =>
       have hfi : findI f.blocks l = -1 := by rw [findI, hf]; rfl
       have hst : stepL f.blocks cur l = cur := by rw [stepL, hf]
       simp -implicitDefEqProofs (maxSteps := 2000000) (disch := omega) only [↓reduceIte, go_sem, Int.reduceToNat, Nat.reduceAdd, Nat.reduceLeDiff, Nat.reduceEqDiff, Nat.reduceSub, Nat.reduceMul, reduceCtorEq, inG, encFn, encSt, hl2, hfi, show decide ((-1 : Int) ≥ 0) = false from rfl]
       refine ⟨j + 1, .drop .refl (reg_sub ?_) fun k => by rw [hstep, hst, ← hSe, ← hPe]; rfl, by omega, by omega⟩
       intro p hp
       simp only [List.mem_cons, List.not_mem_nil, or_false] at hp
       rcases hp with rfl | rfl | rfl | rfl | rfl | rfl | rfl | rfl | rfl <;> (simp -implicitDefEqProofs (maxSteps := 2000000) (disch := omega) only [↓reduceIte, go_sem, Int.reduceToNat, Nat.reduceAdd, Nat.reduceLeDiff, Nat.reduceEqDiff, Nat.reduceSub, Nat.reduceMul, reduceCtorEq, encFn]; try rfl)
      | some t =>
       have hfi : findI f.blocks l = (t : Int) := by rw [findI, hf]; rfl
       have htn := findN_some hf
       have hd1 := cellsR_drop (base := 1000) hS
       simp only [hsR] at hd1
       have hK1 := tail_S (P := P) hS
       simp only [obR] at hK1
       generalize hKe : 1000 + 2 * s = K at hd1 hK1
       have k1 : (20 = K) = False := by simp; omega
       have k2 : (14 = K) = False := by simp; omega
       have k3 : (18 = K) = False := by simp; omega
       have k4 : (K = 20) = False := by simp; omega
       have k5 : (K = 14) = False := by simp; omega
       have k6 : (K = 18) = False := by simp; omega
       simp -implicitDefEqProofs (maxSteps := 2000000) (disch := omega) only [↓reduceIte, go_sem, Int.reduceToNat, Nat.reduceAdd, Nat.reduceLeDiff, Nat.reduceEqDiff, Nat.reduceSub, Nat.reduceMul, reduceCtorEq, inG, encFn, encSt, hl2, hfi, show decide ((t : Int) ≥ 0) = true from decide_eq_true (Int.natCast_nonneg t), hd1, hK1, k1, k2, k3]
       refine callL (C50 cur t (by omega)) ?_
       have hmem : (∃ k ∈ cur, (k : Int) = (t : Int)) ↔ t ∈ cur := ⟨fun ⟨k, hk, e⟩ => by rwa [show t = k by omega], fun h => ⟨t, h, rfl⟩⟩
       by_cases hin : t ∈ cur
       ·have hq : decide (∃ k ∈ cur, (k : Int) = (t : Int)) = true := decide_eq_true (hmem.2 hin)
        have hst : stepL f.blocks cur l = cur := by rw [stepL, hf]; simp [hin]
        simp -implicitDefEqProofs (maxSteps := 2000000) (disch := omega) only [↓reduceIte, go_sem, Int.reduceToNat, Nat.reduceAdd, Nat.reduceLeDiff, Nat.reduceEqDiff, Nat.reduceSub, Nat.reduceMul, reduceCtorEq, inG, encFn, encSt, hl2, hfi, show decide ((t : Int) ≥ 0) = true from decide_eq_true (Int.natCast_nonneg t), hd1, hK1, k1, k2, k3, hq]
        refine ⟨j + 1, .drop .refl (reg_sub ?_) fun k => by rw [hstep, hst, ← hSe, ← hPe]; rfl, by omega, by omega⟩
        intro p hp
        simp only [List.mem_cons, List.not_mem_nil, or_false] at hp
        rcases hp with rfl | rfl | rfl | rfl | rfl | rfl | rfl | rfl | rfl <;> (simp -implicitDefEqProofs (maxSteps := 2000000) (disch := omega) only [↓reduceIte, go_sem, Int.reduceToNat, Nat.reduceAdd, Nat.reduceLeDiff, Nat.reduceEqDiff, Nat.reduceSub, Nat.reduceMul, reduceCtorEq, encFn]; try rfl)
       ·have hq : decide (∃ k ∈ cur, (k : Int) = (t : Int)) = false := decide_eq_false (fun h => hin (hmem.1 h))
        have hst : stepL f.blocks cur l = cur ++ [t] := by rw [stepL, hf]; simp [hin]
        have hc1 : ((cur.length + 1 : Nat) : Int) * ((8 : Nat) : Int) ≤ 70368744177664 := by omega
        have hcl : (cellsR 1000 0 S).length = f.blocks.length := by rw [cellsR_len, hSlen]
        simp -implicitDefEqProofs (maxSteps := 2000000) (disch := omega) only [↓reduceIte, go_sem, Int.reduceToNat, Nat.reduceAdd, Nat.reduceLeDiff, Nat.reduceEqDiff, Nat.reduceSub, Nat.reduceMul, reduceCtorEq, inG, encFn, encSt, hl2, hfi, show decide ((t : Int) ≥ 0) = true from decide_eq_true (Int.natCast_nonneg t), hd1, hK1, k1, k2, k3, k4, k5, k6, hq, hc1, hcl]
        refine accL (by simp [accsOk, pairsOk, acc_n0, acc_0n, accClash, meets, nbd, k1, k2, k3, k4, k5, k6]) ?_
        have hPt := hPg t htn
        have hPtl := hPl t
        have hPt2 := hPs t hin
        generalize pG f.blocks s cur t = pr at hPt hPtl hPt2
        have hd2 := cellsR_drop (base := 1001) hPt
        simp only [hsR] at hd2
        have hK2 := tail_P (S := S) hPt
        simp only [obR] at hK2
        generalize hKe2 : 1001 + 2 * t = K2 at hd2 hK2
        have m1 : (20 = K2) = False := by simp; omega
        have m2 : (14 = K2) = False := by simp; omega
        have m3 : (18 = K2) = False := by simp; omega
        have m4 : (K2 = 20) = False := by simp; omega
        have m5 : (K2 = 14) = False := by simp; omega
        have m6 : (K2 = 18) = False := by simp; omega
        have m7 : (K = K2) = False := by simp; omega
        have m8 : (K2 = K) = False := by simp; omega
        have hc2 : ((pr.length + 1 : Nat) : Int) * ((8 : Nat) : Int) ≤ 70368744177664 := by omega
        have hcl2 : (cellsR 1001 0 P).length = f.blocks.length := by rw [cellsR_len, hPlen]
        simp -implicitDefEqProofs (maxSteps := 2000000) (disch := omega) only [↓reduceIte, go_sem, Int.reduceToNat, Nat.reduceAdd, Nat.reduceLeDiff, Nat.reduceEqDiff, Nat.reduceSub, Nat.reduceMul, reduceCtorEq, inG, encFn, encSt, hl2, hfi, hd1, hK1, k1, k2, k3, k4, k5, k6, hc1, hcl, hd2, hK2, m1, m2, m3, m4, m5, m6, m7, m8, hc2, hcl2, optA_del]
        refine accL (by simp [accsOk, pairsOk, acc_n0, acc_0n, accClash, meets, nbd, m1, m2, m3, m4, m5, m6]) ?_
        simp -implicitDefEqProofs (maxSteps := 2000000) (disch := omega) only [↓reduceIte, go_sem, Int.reduceToNat, Nat.reduceAdd, Nat.reduceLeDiff, Nat.reduceEqDiff, Nat.reduceSub, Nat.reduceMul, reduceCtorEq, inG, encFn, encSt, hl2, hfi, hd1, hK1, k1, k2, k3, k4, k5, k6, hc1, hcl, hd2, hK2, m1, m2, m3, m4, m5, m6, m7, m8, hc2, hcl2, optA_del]
        refine ⟨j + 1, .drop .refl (reg_sub ?_) fun k => ?_, by omega, by omega⟩
        ·intro p hp
         simp only [List.mem_cons, List.not_mem_nil, or_false] at hp
         rcases hp with rfl | rfl | rfl | rfl | rfl | rfl | rfl | rfl | rfl <;> (simp -implicitDefEqProofs (maxSteps := 2000000) (disch := omega) only [↓reduceIte, go_sem, Int.reduceToNat, Nat.reduceAdd, Nat.reduceLeDiff, Nat.reduceEqDiff, Nat.reduceSub, Nat.reduceMul, reduceCtorEq, encFn]; try rfl)
        ·rw [hstep, hst, ← hSs, ← hPt2]
         have q1 := cellsR_set (base := 1000) (rs := S) (i := 0) (j := s) (r := cur ++ [t]) (by omega)
         have q2 := cellsR_set (base := 1001) (rs := P) (i := 0) (j := t) (r := pr ++ [s]) (by omega)
         have u := upd_ob (n := f.blocks.length) (k := k) (A := .box [.bs 14 0 f.blocks.length, .bs 18 0 f.blocks.length]) hKe hKe2 hS hPt (cur' := cur ++ [t]) (pr' := pr ++ [s]) q2 q1
         simp only [obR, hsR, setAt, Nat.zero_add, hKe, hKe2, List.length_append, List.length_cons, List.length_nil, List.map_append, List.map_cons, List.map_nil, encK] at u
         exact u
     ·simp -implicitDefEqProofs (maxSteps := 2000000) (disch := omega) only [↓reduceIte, go_sem, Int.reduceToNat, Nat.reduceAdd, Nat.reduceLeDiff, Nat.reduceEqDiff, Nat.reduceSub, Nat.reduceMul, reduceCtorEq, inG]
      have hje : j = lb.length := by omega
      subst hje
      obtain ⟨g1, g2⟩ := hend ((lb.take lb.length).foldl (stepL f.blocks) []) (by rw [hsg, List.take_length, succB, hlb])
      refine ⟨s + 1, .drop .refl (reg_sub ?_) fun k => ?_, by omega, by omega⟩
      ·intro p hp
       simp only [List.mem_cons, List.not_mem_nil, or_false] at hp
       rcases hp with rfl | rfl | rfl | rfl | rfl <;> (simp -implicitDefEqProofs (maxSteps := 2000000) (disch := omega) only [↓reduceIte, go_sem, Int.reduceToNat, Nat.reduceAdd, Nat.reduceLeDiff, Nat.reduceEqDiff, Nat.reduceSub, Nat.reduceMul, reduceCtorEq, encFn]; try rfl)
      ·rw [← g1, ← g2]
       rfl
   ·simp -implicitDefEqProofs (maxSteps := 2000000) (disch := omega) only [↓reduceIte, go_sem, Int.reduceToNat, Nat.reduceAdd, Nat.reduceLeDiff, Nat.reduceEqDiff, Nat.reduceSub, Nat.reduceMul, reduceCtorEq, encIn, tail_low, tail_del, tail_fz, cells_fz]
    have h0 : [] = (succF f.blocks).getD s [] := by
     rw [hsg]
     unfold succB labelsOf lastOp
     unfold lastP at e
     cases hx : b.code.getLast? with
     | none => rfl
     | some i => rw [hx] at e; simp at e; simp; rw [if_neg (by omega)]; rfl
    obtain ⟨g1, g2⟩ := hend [] h0
    refine ⟨s + 1, .drop .refl (reg_sub ?_) fun k => ?_, by omega, by omega⟩
    ·intro p hp
     simp only [List.mem_cons, List.not_mem_nil, or_false] at hp
     rcases hp with rfl | rfl | rfl | rfl | rfl <;> (simp -implicitDefEqProofs (maxSteps := 2000000) (disch := omega) only [↓reduceIte, go_sem, Int.reduceToNat, Nat.reduceAdd, Nat.reduceLeDiff, Nat.reduceEqDiff, Nat.reduceSub, Nat.reduceMul, reduceCtorEq, encFn]; try rfl)
    ·rw [← g1, ← g2]
     rfl
  ·simp -implicitDefEqProofs (maxSteps := 2000000) (disch := omega) only [↓reduceIte, go_sem, Int.reduceToNat, Nat.reduceAdd, Nat.reduceLeDiff, Nat.reduceEqDiff, Nat.reduceSub, Nat.reduceMul, reduceCtorEq, outG]
   have hse : s = f.blocks.length := by omega
   subst hse
   refine dynL (st' := ⟨[(2, grP (succF f.blocks) (predF (succF f.blocks)))], []⟩) ?_ ?_
   ·rw [rows_done, preds_done]
    refine Stp.trans (b := stG f.blocks.length [] (succF f.blocks) [] (predF (succF f.blocks))) ?_ (frz_G (by simp [succF]) (by simp [predF, succF]))
    refine .drop .refl (reg_sub ?_) fun k => ?_
    ·intro p hp
     simp only [List.mem_cons, List.not_mem_nil, or_false] at hp
     subst hp
     simp -implicitDefEqProofs (maxSteps := 2000000) (disch := omega) only [↓reduceIte, go_sem, Int.reduceToNat, Nat.reduceAdd, Nat.reduceLeDiff, Nat.reduceEqDiff, Nat.reduceSub, Nat.reduceMul, reduceCtorEq]
    ·rfl
   ·simp -implicitDefEqProofs (maxSteps := 2000000) (disch := omega) only [↓reduceIte, go_sem, Int.reduceToNat, Nat.reduceAdd, Nat.reduceLeDiff, Nat.reduceEqDiff, Nat.reduceSub, Nat.reduceMul, reduceCtorEq]
    exact ⟨rfl, rfl⟩
/- The reference's graph; a graph's length and rows. -/
theorem C63 (f : Fnc) (l : ByteArray) (hl : f.blocks.length < 1000000) : Ctr Tryd.prog 63 [.agg (encFn f), .str l] [] (ret [.int .i64 (findI f.blocks l)]) := by
 apply ctr_b A63_ok rfl (Nat.le_of_ble_eq_true rfl)
 unfold A63
 simp only [initL, Nat.reduceAdd]
 simp -implicitDefEqProofs (maxSteps := 2000000) (disch := omega) only [↓reduceIte, go_sem, Int.reduceToNat, Nat.reduceAdd, Nat.reduceLeDiff, Nat.reduceEqDiff, Nat.reduceSub, Nat.reduceMul, reduceCtorEq, encFn]
 refine loopL (σ := Nat) (fun s => ⟨[(1, .str l), (2, .rp (encFn f)), (5, .int .i64 s)], []⟩) (fun s => s ≤ f.blocks.length ∧ ∀ j, j < s → ∀ c, f.blocks[j]? = some c → c.label ≠ l) (fun s => f.blocks.length - s) 0 (by simp -implicitDefEqProofs (maxSteps := 2000000) (disch := omega) only [↓reduceIte, go_sem, Int.reduceToNat, Nat.reduceAdd, Nat.reduceLeDiff, Nat.reduceEqDiff, Nat.reduceSub, Nat.reduceMul, reduceCtorEq, encFn]; rfl) ⟨by omega, fun j hj => by omega⟩ ?_
 rintro s ⟨h1, h2⟩
 simp -implicitDefEqProofs (maxSteps := 2000000) (disch := omega) only [↓reduceIte, go_sem, Int.reduceToNat, Nat.reduceAdd, Nat.reduceLeDiff, Nat.reduceEqDiff, Nat.reduceSub, Nat.reduceMul, reduceCtorEq, encFn]
 refine ifD (fun c => ?_) (fun c => ?_)
 ·obtain ⟨b, hb⟩ : ∃ b, f.blocks[s]? = some b := ⟨_, List.getElem?_eq_getElem (by omega)⟩
  simp -implicitDefEqProofs (maxSteps := 2000000) (disch := omega) only [↓reduceIte, go_sem, Int.reduceToNat, Nat.reduceAdd, Nat.reduceLeDiff, Nat.reduceEqDiff, Nat.reduceSub, Nat.reduceMul, reduceCtorEq, encFn, hb, encBk]
  refine ifD (fun e => ?_) (fun e => ?_)
  ·simp -implicitDefEqProofs (maxSteps := 2000000) (disch := omega) only [↓reduceIte, go_sem, Int.reduceToNat, Nat.reduceAdd, Nat.reduceLeDiff, Nat.reduceEqDiff, Nat.reduceSub, Nat.reduceMul, reduceCtorEq, encFn]
   refine ⟨?_, rfl⟩
   rw [findI, findN_of hb e h2]; rfl
  ·simp -implicitDefEqProofs (maxSteps := 2000000) (disch := omega) only [↓reduceIte, go_sem, Int.reduceToNat, Nat.reduceAdd, Nat.reduceLeDiff, Nat.reduceEqDiff, Nat.reduceSub, Nat.reduceMul, reduceCtorEq, encFn]
   refine ⟨s + 1, by simp, ⟨by omega, fun j hj c hc => ?_⟩, by omega⟩
   by_cases hjs : j = s
   ·subst hjs; rw [hb] at hc; cases hc; exact e
   ·exact h2 j (by omega) c hc
 ·simp -implicitDefEqProofs (maxSteps := 2000000) (disch := omega) only [↓reduceIte, go_sem, Int.reduceToNat, Nat.reduceAdd, Nat.reduceLeDiff, Nat.reduceEqDiff, Nat.reduceSub, Nat.reduceMul, reduceCtorEq, encFn]
  refine ⟨?_, rfl⟩
  rw [findI, findN_none fun j hj => h2 j (by omega)]; rfl
theorem C85 (S P : List (List Nat)) : Ctr Tryd.prog 85 [grP S P] [] (ret [.int .i64 (S.length : Int)]) := by
 apply ctr_b A85_ok rfl (Nat.le_of_ble_eq_true rfl)
 unfold A85
 simp only [initL, Nat.reduceAdd, grP, encRows]
 simp -implicitDefEqProofs (maxSteps := 2000000) (disch := omega) only [↓reduceIte, go_sem, Int.reduceToNat, Nat.reduceAdd, Nat.reduceLeDiff, Nat.reduceEqDiff, Nat.reduceSub, Nat.reduceMul, reduceCtorEq]
 exact ⟨rfl, rfl⟩
/-- One label after the other, as the reference goes. -/
theorem C37 (f : Fnc) (hl : f.blocks.length < 1000000) (hc : ∀ b ∈ f.blocks, b.code.length ≤ 9223372036854775807 ∧ ∀ i ∈ b.code, i.labels.length ≤ 9223372036854775807) : Ctr Tryd.prog 37 [.agg (encFn f)] [] (ret [.sl (encRows (succF f.blocks))]) := by
 apply ctr_b A37_ok rfl (Nat.le_of_ble_eq_true rfl)
 unfold A37
 simp only [initL, Nat.reduceAdd]
 simp -implicitDefEqProofs (maxSteps := 2000000) (disch := omega) only [↓reduceIte, go_sem, Int.reduceToNat, Nat.reduceAdd, Nat.reduceLeDiff, Nat.reduceEqDiff, Nat.reduceSub, Nat.reduceMul, reduceCtorEq, encFn]
 have hfin : ∀ s b cur, f.blocks[s]? = some b → cur = succB f.blocks b → encRows ((succF f.blocks).take s) ++ [[.sl (cur.map encK)]] = encRows ((succF f.blocks).take (s + 1)) := fun s b cur hb hc => by
  have : (succF f.blocks)[s]? = some cur := by simp [succF, hb, hc]
  rw [snoc_take this]
  simp [encRows, encRow]
 refine loopL (σ := Nat) (fun s => ⟨[(1, .rp (encFn f)), (3, .hs 3 s 0 s), (4, .int .i64 (s : Int))], [(3, .arr s 1 (encRows ((succF f.blocks).take s)))]⟩) (fun s => s ≤ f.blocks.length) (fun s => f.blocks.length - s) 0 (by simp -implicitDefEqProofs (maxSteps := 2000000) (disch := omega) only [↓reduceIte, go_sem, Int.reduceToNat, Nat.reduceAdd, Nat.reduceLeDiff, Nat.reduceEqDiff, Nat.reduceSub, Nat.reduceMul, reduceCtorEq, encFn, encRows]; rfl) (Nat.zero_le _) ?_
 intro s hs
 have hrl : (encRows ((succF f.blocks).take s)).length = s := by simp [encRows, succF]; omega
 simp -implicitDefEqProofs (maxSteps := 2000000) (disch := omega) only [↓reduceIte, go_sem, Int.reduceToNat, Nat.reduceAdd, Nat.reduceLeDiff, Nat.reduceEqDiff, Nat.reduceSub, Nat.reduceMul, reduceCtorEq, encFn]
 refine ifD (fun c => ?_) (fun c => ?_)
 ·obtain ⟨b, hb⟩ : ∃ b, f.blocks[s]? = some b := ⟨_, List.getElem?_eq_getElem (by omega)⟩
  have hbm := List.mem_of_getElem? hb
  have hcb := hc b hbm
  have hc1 : ((s + 1 : Nat) : Int) * ((24 : Nat) : Int) ≤ 70368744177664 := by omega
  simp -implicitDefEqProofs (maxSteps := 2000000) (disch := omega) only [↓reduceIte, go_sem, Int.reduceToNat, Nat.reduceAdd, Nat.reduceLeDiff, Nat.reduceEqDiff, Nat.reduceSub, Nat.reduceMul, reduceCtorEq, encFn, hb, encBk]
  refine ifD (fun c2 => ?_) (fun c2 => ?_)
  ·obtain ⟨i, hi⟩ : ∃ i, b.code[b.code.length - 1]? = some i := ⟨_, List.getElem?_eq_getElem (by omega)⟩
   have hgl : b.code.getLast? = some i := by rw [List.getLast?_eq_getElem?, hi]
   have him := List.mem_of_getElem? hi
   have hw : IntKind.i64.wrap ((b.code.length : Int) - 1) = ((b.code.length - 1 : Nat) : Int) := by rw [wrap64 (by omega) (by omega)]; omega
   simp -implicitDefEqProofs (maxSteps := 2000000) (disch := omega) only [↓reduceIte, go_sem, Int.reduceToNat, Nat.reduceAdd, Nat.reduceLeDiff, Nat.reduceEqDiff, Nat.reduceSub, Nat.reduceMul, reduceCtorEq, encFn, hb, encBk, hw, hi, encIn]
   refine ifD (fun c3 => ?_) (fun c3 => ?_)
   ·simp -implicitDefEqProofs (maxSteps := 2000000) (disch := omega) only [↓reduceIte, go_sem, Int.reduceToNat, Nat.reduceAdd, Nat.reduceLeDiff, Nat.reduceEqDiff, Nat.reduceSub, Nat.reduceMul, reduceCtorEq, encFn, hb, encBk, hw, hi, encIn]
    refine ifD (fun c4 => ?_) (fun c4 => ?_)
    ·have hlab : labelsOf b = i.labels := by simp [labelsOf, lastOp, hgl, show 20 ≤ i.op ∧ i.op ≤ 23 from ⟨by omega, by omega⟩]
     have hll := hcb.2 i him
     simp -implicitDefEqProofs (maxSteps := 2000000) (disch := omega) only [↓reduceIte, go_sem, Int.reduceToNat, Nat.reduceAdd, Nat.reduceLeDiff, Nat.reduceEqDiff, Nat.reduceSub, Nat.reduceMul, reduceCtorEq, encFn, hb, encBk, hw, hi, encIn]
     refine loopL (σ := Nat) (fun j => ⟨[(1, .rp (encFn f)), (3, .hs 3 s 0 s), (4, .int .i64 (s : Int)), (5, .hs 5 ((i.labels.take j).foldl (stepL f.blocks) []).length 0 ((i.labels.take j).foldl (stepL f.blocks) []).length), (7, .rp (encIn i)), (8, .int .i64 (j : Int))],
      [(3, .arr s 1 (encRows ((succF f.blocks).take s))), (5, .arr ((i.labels.take j).foldl (stepL f.blocks) []).length 1 (((i.labels.take j).foldl (stepL f.blocks) []).map encK))]⟩) (fun j => j ≤ i.labels.length) (fun j => i.labels.length - j) 0 (by simp -implicitDefEqProofs (maxSteps := 2000000) (disch := omega) only [↓reduceIte, go_sem, Int.reduceToNat, Nat.reduceAdd, Nat.reduceLeDiff, Nat.reduceEqDiff, Nat.reduceSub, Nat.reduceMul, reduceCtorEq, encFn, encIn]; rfl) (Nat.zero_le _) ?_
     intro j hj
     simp -implicitDefEqProofs (maxSteps := 2000000) (disch := omega) only [↓reduceIte, go_sem, Int.reduceToNat, Nat.reduceAdd, Nat.reduceLeDiff, Nat.reduceEqDiff, Nat.reduceSub, Nat.reduceMul, reduceCtorEq, encFn, encIn]
     refine ifD (fun d => ?_) (fun d => ?_)
     ·obtain ⟨l, hl2⟩ : ∃ l, i.labels[j]? = some l := ⟨_, List.getElem?_eq_getElem (by omega)⟩
      have hcur : ∀ x ∈ (i.labels.take j).foldl (stepL f.blocks) [], x < f.blocks.length := foldl_inv (P := fun l => ∀ x ∈ l, x < f.blocks.length) (fun _ _ h => stepL_lt h) _ _ (fun x hx => by cases hx)
      have hnd : ((i.labels.take j).foldl (stepL f.blocks) []).Nodup := foldl_inv (P := List.Nodup) (fun _ _ h => stepL_nodup h) _ _ List.nodup_nil
      have hclen := nodup_le hnd hcur
      have hstep : (i.labels.take (j + 1)).foldl (stepL f.blocks) [] = stepL f.blocks ((i.labels.take j).foldl (stepL f.blocks) []) l := by
       rw [snoc_take hl2, List.foldl_append]; rfl
      generalize (i.labels.take j).foldl (stepL f.blocks) [] = cur at hcur hnd hclen hstep ⊢
      simp -implicitDefEqProofs (maxSteps := 2000000) (disch := omega) only [↓reduceIte, go_sem, Int.reduceToNat, Nat.reduceAdd, Nat.reduceLeDiff, Nat.reduceEqDiff, Nat.reduceSub, Nat.reduceMul, reduceCtorEq, encFn, encIn, hl2, encSt]
      refine callL (C63 f l hl) ?_
      simp -implicitDefEqProofs (maxSteps := 2000000) (disch := omega) only [↓reduceIte, go_sem, Int.reduceToNat, Nat.reduceAdd, Nat.reduceLeDiff, Nat.reduceEqDiff, Nat.reduceSub, Nat.reduceMul, reduceCtorEq, encFn, encIn, hl2, encSt]
      refine accL (by kernel_rfl) ?_
      cases hf : findN f.blocks l with
      | none =>
       have hfi : findI f.blocks l = -1 := by rw [findI, hf]; rfl
       have hst : stepL f.blocks cur l = cur := by rw [stepL, hf]
       simp -implicitDefEqProofs (maxSteps := 2000000) (disch := omega) only [↓reduceIte, go_sem, Int.reduceToNat, Nat.reduceAdd, Nat.reduceLeDiff, Nat.reduceEqDiff, Nat.reduceSub, Nat.reduceMul, reduceCtorEq, encFn, encIn, encSt, hl2, hfi, show decide ((-1 : Int) ≥ 0) = false from rfl]
       exact ⟨j + 1, by rw [hstep, hst]; simp, by omega, by omega⟩
      | some t =>
       have hfi : findI f.blocks l = (t : Int) := by rw [findI, hf]; rfl
       have htn := findN_some hf
       simp -implicitDefEqProofs (maxSteps := 2000000) (disch := omega) only [↓reduceIte, go_sem, Int.reduceToNat, Nat.reduceAdd, Nat.reduceLeDiff, Nat.reduceEqDiff, Nat.reduceSub, Nat.reduceMul, reduceCtorEq, encFn, encIn, encSt, hl2, hfi, show decide ((t : Int) ≥ 0) = true from decide_eq_true (Int.natCast_nonneg t)]
       refine callL (C11 cur t (by omega)) ?_
       have hmem : (∃ k ∈ cur, (k : Int) = (t : Int)) ↔ t ∈ cur := ⟨fun ⟨k, hk, e⟩ => by rwa [show t = k by omega], fun h => ⟨t, h, rfl⟩⟩
       by_cases hin : t ∈ cur
       ·have hq : decide (∃ k ∈ cur, (k : Int) = (t : Int)) = true := decide_eq_true (hmem.2 hin)
        have hst : stepL f.blocks cur l = cur := by rw [stepL, hf]; simp [hin]
        simp -implicitDefEqProofs (maxSteps := 2000000) (disch := omega) only [↓reduceIte, go_sem, Int.reduceToNat, Nat.reduceAdd, Nat.reduceLeDiff, Nat.reduceEqDiff, Nat.reduceSub, Nat.reduceMul, reduceCtorEq, encFn, encIn, encSt, hl2, hfi, show decide ((t : Int) ≥ 0) = true from decide_eq_true (Int.natCast_nonneg t), hq]
        exact ⟨j + 1, by rw [hstep, hst]; simp, by omega, by omega⟩
       ·have hq : decide (∃ k ∈ cur, (k : Int) = (t : Int)) = false := decide_eq_false (fun h => hin (hmem.1 h))
        have hst : stepL f.blocks cur l = cur ++ [t] := by rw [stepL, hf]; simp [hin]
        have hc2 : ((cur.length + 1 : Nat) : Int) * ((8 : Nat) : Int) ≤ 70368744177664 := by omega
        simp -implicitDefEqProofs (maxSteps := 2000000) (disch := omega) only [↓reduceIte, go_sem, Int.reduceToNat, Nat.reduceAdd, Nat.reduceLeDiff, Nat.reduceEqDiff, Nat.reduceSub, Nat.reduceMul, reduceCtorEq, encFn, encIn, encSt, hl2, hfi, show decide ((t : Int) ≥ 0) = true from decide_eq_true (Int.natCast_nonneg t), hq, hc2]
        exact ⟨j + 1, by rw [hstep, hst]; simp [encK], by omega, by omega⟩
     ·have hje : j = i.labels.length := by omega
      subst hje
      have hsb : (i.labels.take i.labels.length).foldl (stepL f.blocks) [] = succB f.blocks b := by rw [List.take_length, succB, hlab]
      generalize (i.labels.take i.labels.length).foldl (stepL f.blocks) [] = cur at hsb ⊢
      simp -implicitDefEqProofs (maxSteps := 2000000) (disch := omega) only [↓reduceIte, go_sem, Int.reduceToNat, Nat.reduceAdd, Nat.reduceLeDiff, Nat.reduceEqDiff, Nat.reduceSub, Nat.reduceMul, reduceCtorEq, encFn, encIn, hb, encBk, hrl, hc1]
      exact ⟨s + 1, by rw [← hfin s b cur hb hsb]; simp, by omega, by omega⟩
    ·have hsb : [] = succB f.blocks b := by simp [succB, labelsOf, lastOp, hgl]; rw [if_neg (by omega)]; rfl
     simp -implicitDefEqProofs (maxSteps := 2000000) (disch := omega) only [↓reduceIte, go_sem, Int.reduceToNat, Nat.reduceAdd, Nat.reduceLeDiff, Nat.reduceEqDiff, Nat.reduceSub, Nat.reduceMul, reduceCtorEq, encFn, hb, encBk, hw, hi, encIn, hrl, hc1]
     exact ⟨s + 1, by rw [← hfin s b [] hb hsb]; simp, by omega, by omega⟩
   ·have hsb : [] = succB f.blocks b := by simp [succB, labelsOf, lastOp, hgl]; rw [if_neg (by omega)]; rfl
    simp -implicitDefEqProofs (maxSteps := 2000000) (disch := omega) only [↓reduceIte, go_sem, Int.reduceToNat, Nat.reduceAdd, Nat.reduceLeDiff, Nat.reduceEqDiff, Nat.reduceSub, Nat.reduceMul, reduceCtorEq, encFn, hb, encBk, hw, hi, encIn, hrl, hc1]
    exact ⟨s + 1, by rw [← hfin s b [] hb hsb]; simp, by omega, by omega⟩
  ·have h0 : b.code = [] := List.eq_nil_of_length_eq_zero (by omega)
   have hsb : [] = succB f.blocks b := by simp [succB, labelsOf, lastOp, h0]
   simp -implicitDefEqProofs (maxSteps := 2000000) (disch := omega) only [↓reduceIte, go_sem, Int.reduceToNat, Nat.reduceAdd, Nat.reduceLeDiff, Nat.reduceEqDiff, Nat.reduceSub, Nat.reduceMul, reduceCtorEq, encFn, hb, encBk, hrl, hc1]
   exact ⟨s + 1, by rw [← hfin s b [] hb hsb]; simp, by omega, by omega⟩
 ·simp -implicitDefEqProofs (maxSteps := 2000000) (disch := omega) only [↓reduceIte, go_sem, Int.reduceToNat, Nat.reduceAdd, Nat.reduceLeDiff, Nat.reduceEqDiff, Nat.reduceSub, Nat.reduceMul, reduceCtorEq]
  refine ⟨?_, rfl⟩
  rw [List.take_of_length_le (Nat.le_of_eq hrl), List.take_of_length_le (by simp [succF]; omega)]
/- The reference's guard: it answers. -/
def anyR : List AV → List Ob → Prop := fun r o => (∃ b, r = [.bool b]) ∧ o = []
set_option maxHeartbeats 1000000 in
theorem C4 (f : Fnc) (hB : f.blocks.length ≤ 9223372036854775807) (hc : ∀ b ∈ f.blocks, b.code.length ≤ 9223372036854775807 ∧ ∀ i ∈ b.code, i.labels.length ≤ 9223372036854775807) : Ctr Tryd.prog 4 [.agg (encFn f)] [] anyR := by
 apply ctr_b A4_ok rfl (Nat.le_of_ble_eq_true rfl)
 unfold A4
 simp only [initL, Nat.reduceAdd]
 simp -implicitDefEqProofs (maxSteps := 2000000) (disch := omega) only [↓reduceIte, go_sem, Int.reduceToNat, Nat.reduceAdd, Nat.reduceLeDiff, Nat.reduceEqDiff, Nat.reduceSub, Nat.reduceMul, reduceCtorEq, encFn]
 refine loopL (σ := Int × Nat) (fun x => ⟨[(1, .rp (encFn f)), (3, .int .i64 x.1), (4, .int .i64 (x.2 : Int))], []⟩) (fun x => x.2 ≤ f.blocks.length) (fun x => f.blocks.length - x.2) (_, 0) (by simp -implicitDefEqProofs (maxSteps := 2000000) (disch := omega) only [↓reduceIte, go_sem, Int.reduceToNat, Nat.reduceAdd, Nat.reduceLeDiff, Nat.reduceEqDiff, Nat.reduceSub, Nat.reduceMul, reduceCtorEq, encFn]; rfl) (Nat.zero_le _) ?_
 rintro ⟨n, i⟩ h1
 simp only at h1
 simp -implicitDefEqProofs (maxSteps := 2000000) (disch := omega) only [↓reduceIte, go_sem, Int.reduceToNat, Nat.reduceAdd, Nat.reduceLeDiff, Nat.reduceEqDiff, Nat.reduceSub, Nat.reduceMul, reduceCtorEq, encFn]
 refine ifD (fun c => ?_) (fun c => ?_)
 ·have hb : f.blocks[i]? = some f.blocks[i] := List.getElem?_eq_getElem (by omega)
  have hbm : f.blocks[i] ∈ f.blocks := List.getElem_mem _
  have hcb := hc _ hbm
  generalize f.blocks[i] = b at hb hcb
  simp -implicitDefEqProofs (maxSteps := 2000000) (disch := omega) only [↓reduceIte, go_sem, Int.reduceToNat, Nat.reduceAdd, Nat.reduceLeDiff, Nat.reduceEqDiff, Nat.reduceSub, Nat.reduceMul, reduceCtorEq, encFn, hb, encBk]
  refine accL (by kernel_rfl) ?_
  simp -implicitDefEqProofs (maxSteps := 2000000) (disch := omega) only [↓reduceIte, go_sem, Int.reduceToNat, Nat.reduceAdd, Nat.reduceLeDiff, Nat.reduceEqDiff, Nat.reduceSub, Nat.reduceMul, reduceCtorEq, encFn, hb, encBk]
  refine loopL (σ := Int × Nat) (fun x => ⟨[(1, .rp (encFn f)), (3, .int .i64 x.1), (4, .int .i64 (i : Int)), (5, .int .i64 (x.2 : Int))], []⟩) (fun x => x.2 ≤ b.code.length) (fun x => b.code.length - x.2) (_, 0) (by simp -implicitDefEqProofs (maxSteps := 2000000) (disch := omega) only [↓reduceIte, go_sem, Int.reduceToNat, Nat.reduceAdd, Nat.reduceLeDiff, Nat.reduceEqDiff, Nat.reduceSub, Nat.reduceMul, reduceCtorEq, encFn]; rfl) (Nat.zero_le _) ?_
  rintro ⟨n2, j⟩ h2
  simp only at h2
  simp -implicitDefEqProofs (maxSteps := 2000000) (disch := omega) only [↓reduceIte, go_sem, Int.reduceToNat, Nat.reduceAdd, Nat.reduceLeDiff, Nat.reduceEqDiff, Nat.reduceSub, Nat.reduceMul, reduceCtorEq, encFn, hb, encBk]
  refine ifD (fun c2 => ?_) (fun c2 => ?_)
  ·have hi : b.code[j]? = some b.code[j] := List.getElem?_eq_getElem (by omega)
   have him : b.code[j] ∈ b.code := List.getElem_mem _
   have hci := hcb.2 _ him
   generalize b.code[j] = x at hi hci
   simp -implicitDefEqProofs (maxSteps := 2000000) (disch := omega) only [↓reduceIte, go_sem, Int.reduceToNat, Nat.reduceAdd, Nat.reduceLeDiff, Nat.reduceEqDiff, Nat.reduceSub, Nat.reduceMul, reduceCtorEq, encFn, hb, encBk, hi, encIn]
   refine loopL (σ := Int × Nat) (fun y => ⟨[(1, .rp (encFn f)), (3, .int .i64 y.1), (4, .int .i64 (i : Int)), (5, .int .i64 (j : Int)), (6, .rp (encIn x)), (7, .int .i64 (y.2 : Int))], []⟩) (fun y => y.2 ≤ x.labels.length) (fun y => x.labels.length - y.2) (_, 0) (by simp -implicitDefEqProofs (maxSteps := 2000000) (disch := omega) only [↓reduceIte, go_sem, Int.reduceToNat, Nat.reduceAdd, Nat.reduceLeDiff, Nat.reduceEqDiff, Nat.reduceSub, Nat.reduceMul, reduceCtorEq, encFn, encIn]; rfl) (Nat.zero_le _) ?_
   rintro ⟨n3, k⟩ h3
   simp only at h3
   simp -implicitDefEqProofs (maxSteps := 2000000) (disch := omega) only [↓reduceIte, go_sem, Int.reduceToNat, Nat.reduceAdd, Nat.reduceLeDiff, Nat.reduceEqDiff, Nat.reduceSub, Nat.reduceMul, reduceCtorEq, encFn, encIn]
   refine ifD (fun c3 => ?_) (fun c3 => ?_)
   ·have hlk : x.labels[k]? = some x.labels[k] := List.getElem?_eq_getElem (by omega)
    generalize x.labels[k] = lb at hlk
    simp -implicitDefEqProofs (maxSteps := 2000000) (disch := omega) only [↓reduceIte, go_sem, Int.reduceToNat, Nat.reduceAdd, Nat.reduceLeDiff, Nat.reduceEqDiff, Nat.reduceSub, Nat.reduceMul, reduceCtorEq, encFn, encIn, hlk, encSt]
    exact ⟨(_, k + 1), rfl, by simp only; omega, by simp only; omega⟩
   ·simp -implicitDefEqProofs (maxSteps := 2000000) (disch := omega) only [↓reduceIte, go_sem, Int.reduceToNat, Nat.reduceAdd, Nat.reduceLeDiff, Nat.reduceEqDiff, Nat.reduceSub, Nat.reduceMul, reduceCtorEq, encFn, encIn]
    exact ⟨(_, j + 1), rfl, by simp only; omega, by simp only; omega⟩
  ·simp -implicitDefEqProofs (maxSteps := 2000000) (disch := omega) only [↓reduceIte, go_sem, Int.reduceToNat, Nat.reduceAdd, Nat.reduceLeDiff, Nat.reduceEqDiff, Nat.reduceSub, Nat.reduceMul, reduceCtorEq, encFn]
   exact ⟨(_, i + 1), rfl, by simp only; omega, by simp only; omega⟩
 ·simp -implicitDefEqProofs (maxSteps := 2000000) (disch := omega) only [↓reduceIte, go_sem, Int.reduceToNat, Nat.reduceAdd, Nat.reduceLeDiff, Nat.reduceEqDiff, Nat.reduceSub, Nat.reduceMul, reduceCtorEq, encFn]
  refine ifD (fun c2 => ?_) (fun c2 => ?_)
  ·simp -implicitDefEqProofs (maxSteps := 2000000) (disch := omega) only [↓reduceIte, go_sem, Int.reduceToNat, Nat.reduceAdd, Nat.reduceLeDiff, Nat.reduceEqDiff, Nat.reduceSub, Nat.reduceMul, reduceCtorEq, encFn]
   exact ⟨⟨_, rfl⟩, rfl⟩
  ·simp -implicitDefEqProofs (maxSteps := 2000000) (disch := omega) only [↓reduceIte, go_sem, Int.reduceToNat, Nat.reduceAdd, Nat.reduceLeDiff, Nat.reduceEqDiff, Nat.reduceSub, Nat.reduceMul, reduceCtorEq, encFn]
   exact ⟨⟨_, rfl⟩, rfl⟩
end Go.Proofs.YtgbmneoeggdaoaaDoor.X
