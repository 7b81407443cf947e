/- Find, In, Contains, Clone, what a block ends with. -/
import Derived.Test.YtgbmneoeggdaoaaGreatDoorXa
import Derived.Test.YtgbmneoeggdaoaaGreatDoorXaso
import Derived.Test.YtgbmneoeggdaoaaGreatDoorXam5
namespace Go.Proofs.YtgbmneoeggdaoaaGreatDoor.X
open Go Go.AM Go.Proofs
open Nat (reduceAdd reduceLeDiff reduceEqDiff reduceSub reduceMul)
open Int (reduceToNat)
attribute [local go_sem ↓] w_skip w_lbl w_ops w_draw w_pre w_post w_alt w_seq w_cond w_block w_join w_loop w_exit w_ret w_scope w_rfunc l_nil l_cons th_n th_e th_r bk_n bk_r bk_e t_nil t_it t_call t_callg i_nil i_one i_grp s_nil s_cons c_call c_callg e_rar e_dynB e_mv e_nil e_dyn e_nilb e_frz o_mov o_bin o_eq o_un o_conv o_len o_slen o_idx o_aix o_fad o_load o_store o_boxp o_boxo o_boxm o_alloc o_allocm o_alloca o_nilarr o_build o_bslp o_bslo o_slc o_sslc o_slc3 o_sidx o_mkfn o_mkmv o_calle o_bslr o_ridx o_rload o_rapp o_vidx o_ext o_pick o_callf o_callb o_appd o_clear o_mxn o_field o_nilc o_make o_makeb o_buildm o_boxg o_mkif o_tass o_eqs o_callo o_callx k_int k_str k_bool k_grb k_grt k_some k_none k_rar k_arr k_lens k_lenf k_lenh k_lenb k_idxb k_idxs k_idxf k_idxh k_ld k_loadp k_loadr k_loade k_storer k_storee k_oin k_ois k_slcs k_slcf k_slch k_slc3s k_slc3f k_slc3h k_app2 k_apps k_appf k_apph k_cals k_cald k_cali k_cnb k_cna k_esn k_esc k_efn k_efc k_esh b_add b_sub b_mul b_quo b_rem b_and b_or b_xor b_andNot b_eql b_neq b_lss b_leq b_gtr b_geq b_shl b_shr b_seq b_sne b_slt b_sad q_bool q_str q_nil q_nilf u_not u_neg u_xor f_ret f_nor v_r v_c v_g v_reg v_ob v_set v_put v_so v_sn v_pn v_pc g_nil d_nil p_nil m_mv m_fr z_nil z_cons z_an z_ac g_cons d_cons p_cons y_mov y_bin y_eq y_un y_conv y_len y_slen y_idx y_aix y_fad y_load y_store y_boxp y_boxo y_boxm y_alloc y_alloca y_allocm y_nilarr y_build y_bslp y_bslo y_slc y_sslc y_slc3 y_sidx y_mkfn y_ext y_pick y_callf y_callb y_appd y_clear y_mxn y_field y_nilc y_make y_makeb y_buildm y_boxg y_mkif y_tass y_eqs y_callo y_mkmv y_callx y_vidx y_bslr y_ridx y_rload y_rapp y_calle nb_if
attribute [local go_sem] nbd VL_mk VL2_mk If_t If_f If_not If_and If_or If_dt If_df If_et If_ef If_ne Ck_t Ck_h Opt_s ld_a ld_c lm_a lm_c renL ren keepR renA idxM invL getObs mapOb renOb allNone putAll fzR fzO fz fzL fzOb fzB frzOk upFrom mapR resOne resA cellsOf oneA oneAL isP isPL okSt kRows kParts fillA setAt bor bor0 bor1 bor2 borC borI key0 key1 key2 keysA fillM cellsM cellM unif ptrA ifOk kPartsM getObsM allNoneM zipU scal0 scalar eqC evNil evNilF memK keyX hideM xbor scal1 scalX scalOb bndA mkMag showM lendV hideV hideR hideOb hideL hideO showL backO noneO mapA List.map_cons List.map_nil List.cons_append List.nil_append List.append_nil List.drop_zero List.drop_succ_cons List.drop_nil List.take_succ_cons List.take_zero List.take_nil List.length_cons List.length_nil List.length_map List.getElem?_map Option.map_some Option.map_none Int.toNat_natCast Int.toNat_zero Int.toNat_one Int.natCast_nonneg List.flatMap_cons List.flatMap_nil List.all_cons List.all_nil List.any_cons List.any_nil Bool.or_false Bool.false_or Bool.or_true Bool.true_or Bool.and_true Bool.true_and Bool.and_false Bool.false_and Bool.not_true Bool.not_false beq_self_eq_true nb_self all_nil List.forall_mem_cons tk_map tk_app bs_self bs_dec bq_t bq_f Bool.not_not decide_true decide_false Bool.not_not and_self and_true true_and eq_self List.reverse_cons List.reverse_nil List.getElem?_cons_zero List.getElem?_cons_succ cond_true cond_false List.set_cons_zero List.set_cons_succ Nat.zero_add Nat.add_zero if_true if_false ite_true ite_false implies_true wrap64 wrap8
set_option linter.unusedVariables false
set_option linter.unusedSimpArgs false
set_option maxRecDepth 10000
theorem C86 (b : Blk) (l : ByteArray) : Ctr Tryz.prog 86 [.agg (encBk b), .rp [.str l]] [] (ret [.bool (decide (b.label = l))]) := by
 apply ctr_b A86_ok rfl (Nat.le_of_ble_eq_true rfl)
 unfold A86
 simp only [initL, Nat.reduceAdd, encBk]
 simp -implicitDefEqProofs (disch := omega) only [↓reduceIte, go_sem, reduceToNat, reduceAdd, reduceLeDiff, reduceEqDiff, reduceSub, reduceMul, reduceCtorEq]
 exact ⟨rfl, rfl⟩
theorem C85 (bs : List Blk) (l : ByteArray) (hl : bs.length < 1000000) : Ctr Tryz.prog 85 [.sl (bs.map encBk), .fn 86 [.rp [.str l]]] [] (ret [.int .i64 (findI bs l)]) := by
 apply ctr_b A85_ok rfl (Nat.le_of_ble_eq_true rfl)
 unfold A85
 simp only [initL, Nat.reduceAdd]
 simp -implicitDefEqProofs (disch := omega) only [↓reduceIte, go_sem, reduceToNat, reduceAdd, reduceLeDiff, reduceEqDiff, reduceSub, reduceMul, reduceCtorEq]
 refine loopL (σ := Nat) (fun s => ⟨[(0, .sl (bs.map encBk)), (1, .fn 86 [.rp [.str l]]), (7, .int .i64 bs.length), (8, .int .i64 s)], []⟩) (fun s => s ≤ bs.length ∧ ∀ j, j < s → ∀ c, bs[j]? = some c → c.label ≠ l) (fun s => bs.length - s) 0 (by simp -implicitDefEqProofs (disch := omega) only [↓reduceIte, go_sem, reduceToNat, reduceAdd, reduceLeDiff, reduceEqDiff, reduceSub, reduceMul, reduceCtorEq]; rfl) ⟨by omega, fun j hj => by omega⟩ ?_
 rintro s ⟨h1, h2⟩
 simp -implicitDefEqProofs (disch := omega) only [↓reduceIte, go_sem, reduceToNat, reduceAdd, reduceLeDiff, reduceEqDiff, reduceSub, reduceMul, reduceCtorEq]
 refine ifD (fun c => ?_) (fun c => ?_)
 ·obtain ⟨b, hb⟩ : ∃ b, bs[s]? = some b := ⟨bs[s], List.getElem?_eq_getElem (by omega)⟩
  simp -implicitDefEqProofs (disch := omega) only [↓reduceIte, go_sem, reduceToNat, reduceAdd, reduceLeDiff, reduceEqDiff, reduceSub, reduceMul, reduceCtorEq, hb]
  have hlen : (encBk b).length = 4 := rfl
  simp -implicitDefEqProofs (disch := omega) only [↓reduceIte, go_sem, reduceToNat, reduceAdd, reduceLeDiff, reduceEqDiff, reduceSub, reduceMul, reduceCtorEq, hb, hlen]
  have h4 : List.take 4 (encBk b) = encBk b := List.take_of_length_le (by omega)
  simp -implicitDefEqProofs (disch := omega) only [↓reduceIte, go_sem, reduceToNat, reduceAdd, reduceLeDiff, reduceEqDiff, reduceSub, reduceMul, reduceCtorEq, h4]
  refine callL (C86 b l) ?_
  simp -implicitDefEqProofs (disch := omega) only [↓reduceIte, go_sem, reduceToNat, reduceAdd, reduceLeDiff, reduceEqDiff, reduceSub, reduceMul, reduceCtorEq]
  refine ifD (fun e => ?_) (fun e => ?_)
  ·simp -implicitDefEqProofs (disch := omega) only [↓reduceIte, go_sem, reduceToNat, reduceAdd, reduceLeDiff, reduceEqDiff, reduceSub, reduceMul, reduceCtorEq]
   refine ⟨?_, rfl⟩
   rw [findI, findN_of hb e h2]; rfl
  ·simp -implicitDefEqProofs (disch := omega) only [↓reduceIte, go_sem, reduceToNat, reduceAdd, reduceLeDiff, reduceEqDiff, reduceSub, reduceMul, reduceCtorEq]
   refine ⟨s + 1, by simp, ⟨by omega, fun j hj c hc => ?_⟩, by omega⟩
   by_cases hjs : j = s
   ·subst hjs; rw [hb] at hc; cases hc; exact e
   ·exact h2 j (by omega) c hc
 ·simp -implicitDefEqProofs (disch := omega) only [↓reduceIte, go_sem, reduceToNat, reduceAdd, reduceLeDiff, reduceEqDiff, reduceSub, reduceMul, reduceCtorEq]
  refine ⟨?_, rfl⟩
  rw [findI, findN_none fun j hj => h2 j (by omega)]; rfl
theorem C54 (f : Fnc) (l : ByteArray) (hl : f.blocks.length < 1000000) : Ctr Tryz.prog 54 [.agg (encFn f), .str l] [] (ret [.int .i64 (findI f.blocks l)]) := by
 apply ctr_b A54_ok rfl (Nat.le_of_ble_eq_true rfl)
 unfold A54
 simp only [initL, Nat.reduceAdd, encFn]
 simp -implicitDefEqProofs (disch := omega) only [↓reduceIte, go_sem, reduceToNat, reduceAdd, reduceLeDiff, reduceEqDiff, reduceSub, reduceMul, reduceCtorEq]
 refine callL (C85 f.blocks l hl) ?_
 simp -implicitDefEqProofs (disch := omega) only [↓reduceIte, go_sem, reduceToNat, reduceAdd, reduceLeDiff, reduceEqDiff, reduceSub, reduceMul, reduceCtorEq]
 exact ⟨rfl, rfl⟩
theorem encK_get {u : List Nat} {s : Nat} (h : s < u.length) : (u.map encK)[s]? = some [.int .i64 (u[s]! : Int)] := by
 rw [List.getElem?_map, List.getElem?_eq_getElem h]
 simp [encK, h]
theorem notin {u : List Nat} {x : Int} (h : ∀ j, j < u.length → ((u[j]! : Nat) : Int) ≠ x) : decide (∃ k ∈ u, (k : Int) = x) = false := by
 rw [decide_eq_false_iff_not]
 rintro ⟨k, hk, rfl⟩
 obtain ⟨j, hj, rfl⟩ := List.getElem_of_mem hk
 exact h j hj (by simp [hj])
theorem C11 (u : List Nat) (x : Int) (hl : u.length < 1000000) : Ctr Tryz.prog 11 [.sl (u.map encK), .int .i64 x] [] (ret [.bool (decide (∃ k ∈ u, (k : Int) = x))]) := by
 apply ctr_b A11_ok rfl (Nat.le_of_ble_eq_true rfl)
 unfold A11
 simp only [initL, Nat.reduceAdd]
 simp -implicitDefEqProofs (disch := omega) only [↓reduceIte, go_sem, reduceToNat, reduceAdd, reduceLeDiff, reduceEqDiff, reduceSub, reduceMul, reduceCtorEq]
 refine loopL (σ := Nat) (fun s => ⟨[(0, .sl (u.map encK)), (1, .int .i64 x), (5, .int .i64 s)], []⟩) (fun s => s ≤ u.length ∧ ∀ j, j < s → ((u[j]! : Nat) : Int) ≠ x) (fun s => u.length - s) 0 (by simp -implicitDefEqProofs (disch := omega) only [↓reduceIte, go_sem, reduceToNat, reduceAdd, reduceLeDiff, reduceEqDiff, reduceSub, reduceMul, reduceCtorEq]; rfl) ⟨by omega, fun j hj => by omega⟩ ?_
 rintro s ⟨h1, h2⟩
 simp -implicitDefEqProofs (disch := omega) only [↓reduceIte, go_sem, reduceToNat, reduceAdd, reduceLeDiff, reduceEqDiff, reduceSub, reduceMul, reduceCtorEq]
 refine ifD (fun c => ?_) (fun c => ?_)
 ·have hs : s < u.length := by omega
  have hg := encK_get hs
  simp -implicitDefEqProofs (disch := omega) only [↓reduceIte, go_sem, reduceToNat, reduceAdd, reduceLeDiff, reduceEqDiff, reduceSub, reduceMul, reduceCtorEq, hg]
  refine ifE (fun e => ?_) (fun e => ?_)
  ·simp -implicitDefEqProofs (disch := omega) only [↓reduceIte, go_sem, reduceToNat, reduceAdd, reduceLeDiff, reduceEqDiff, reduceSub, reduceMul, reduceCtorEq]
   refine ⟨?_, rfl⟩
   rw [show decide (∃ k ∈ u, (k : Int) = x) = true from decide_eq_true ⟨u[s]!, by simp [hs], e⟩]
  ·simp -implicitDefEqProofs (disch := omega) only [↓reduceIte, go_sem, reduceToNat, reduceAdd, reduceLeDiff, reduceEqDiff, reduceSub, reduceMul, reduceCtorEq]
   refine ⟨s + 1, by simp, ⟨by omega, fun j hj => ?_⟩, by omega⟩
   by_cases hjs : j = s
   ·subst hjs; exact e
   ·exact h2 j (by omega)
 ·simp -implicitDefEqProofs (disch := omega) only [↓reduceIte, go_sem, reduceToNat, reduceAdd, reduceLeDiff, reduceEqDiff, reduceSub, reduceMul, reduceCtorEq]
  exact ⟨by rw [notin fun j hj => h2 j (by omega)], rfl⟩
/-- The first place of a number. -/
def idxI (u : List Nat) (x : Int) : Int := optZ (u.findIdx? fun (k : Nat) => decide ((k : Int) = x))
theorem idxI_of {u : List Nat} {x : Int} {s : Nat} (hs : s < u.length) (e : ((u[s]! : Nat) : Int) = x) (h : ∀ j, j < s → ((u[j]! : Nat) : Int) ≠ x) : idxI u x = s := by
 have : u.findIdx? (fun (k : Nat) => decide ((k : Int) = x)) = some s := by
  rw [List.findIdx?_eq_some_iff_getElem]
  refine ⟨hs, by simpa [hs] using e, fun j hj => ?_⟩
  have := h j hj
  simp [show j < u.length by omega] at this
  simpa using this
 rw [idxI, this]; rfl
theorem idxI_none {u : List Nat} {x : Int} (h : ∀ j, j < u.length → ((u[j]! : Nat) : Int) ≠ x) : idxI u x = -1 := by
 have : u.findIdx? (fun (k : Nat) => decide ((k : Int) = x)) = none := by
  rw [List.findIdx?_eq_none_iff]
  intro k hk
  obtain ⟨j, hj, rfl⟩ := List.getElem_of_mem hk
  have := h j hj
  simp [hj] at this
  simpa using this
 rw [idxI, this]; rfl
theorem idxI_ge (u : List Nat) (x : Int) : decide (0 ≤ idxI u x) = decide (∃ k ∈ u, (k : Int) = x) := by
 unfold idxI
 cases h : u.findIdx? fun (k : Nat) => decide ((k : Int) = x) with
 | none =>
  rw [List.findIdx?_eq_none_iff] at h
  have h2 : ¬ ∃ k ∈ u, (k : Int) = x := fun ⟨k, hk, e⟩ => absurd e (by simpa using h k hk)
  rw [decide_eq_false h2]
  rfl
 | some i =>
  rw [List.findIdx?_eq_some_iff_getElem] at h
  obtain ⟨hi, he, _⟩ := h
  have h2 : ∃ k ∈ u, (k : Int) = x := ⟨u[i], List.getElem_mem hi, by simpa using he⟩
  rw [decide_eq_true h2]
  exact decide_eq_true (Int.natCast_nonneg i)
theorem C87 (u : List Nat) (x : Int) (hl : u.length < 1000000) : Ctr Tryz.prog 87 [.sl (u.map encK), .int .i64 x] [] (ret [.int .i64 (idxI u x)]) := by
 apply ctr_b A87_ok rfl (Nat.le_of_ble_eq_true rfl)
 unfold A87
 simp only [initL, Nat.reduceAdd]
 simp -implicitDefEqProofs (disch := omega) only [↓reduceIte, go_sem, reduceToNat, reduceAdd, reduceLeDiff, reduceEqDiff, reduceSub, reduceMul, reduceCtorEq]
 refine loopL (σ := Nat) (fun s => ⟨[(0, .sl (u.map encK)), (1, .int .i64 x), (7, .int .i64 u.length), (8, .int .i64 s)], []⟩) (fun s => s ≤ u.length ∧ ∀ j, j < s → ((u[j]! : Nat) : Int) ≠ x) (fun s => u.length - s) 0 (by simp -implicitDefEqProofs (disch := omega) only [↓reduceIte, go_sem, reduceToNat, reduceAdd, reduceLeDiff, reduceEqDiff, reduceSub, reduceMul, reduceCtorEq]; rfl) ⟨by omega, fun j hj => by omega⟩ ?_
 rintro s ⟨h1, h2⟩
 simp -implicitDefEqProofs (disch := omega) only [↓reduceIte, go_sem, reduceToNat, reduceAdd, reduceLeDiff, reduceEqDiff, reduceSub, reduceMul, reduceCtorEq]
 refine ifD (fun c => ?_) (fun c => ?_)
 ·have hs : s < u.length := by omega
  have hg := encK_get hs
  simp -implicitDefEqProofs (disch := omega) only [↓reduceIte, go_sem, reduceToNat, reduceAdd, reduceLeDiff, reduceEqDiff, reduceSub, reduceMul, reduceCtorEq, hg]
  refine ifE (fun e => ?_) (fun e => ?_)
  ·simp -implicitDefEqProofs (disch := omega) only [↓reduceIte, go_sem, reduceToNat, reduceAdd, reduceLeDiff, reduceEqDiff, reduceSub, reduceMul, reduceCtorEq]
   exact ⟨by rw [idxI_of hs e.symm h2], rfl⟩
  ·simp -implicitDefEqProofs (disch := omega) only [↓reduceIte, go_sem, reduceToNat, reduceAdd, reduceLeDiff, reduceEqDiff, reduceSub, reduceMul, reduceCtorEq]
   refine ⟨s + 1, by simp, ⟨by omega, fun j hj => ?_⟩, by omega⟩
   by_cases hjs : j = s
   ·subst hjs; exact fun h => e h.symm
   ·exact h2 j (by omega)
 ·simp -implicitDefEqProofs (disch := omega) only [↓reduceIte, go_sem, reduceToNat, reduceAdd, reduceLeDiff, reduceEqDiff, reduceSub, reduceMul, reduceCtorEq]
  exact ⟨by rw [idxI_none fun j hj => h2 j (by omega)], rfl⟩
theorem C55 (u : List Nat) (x : Int) (hl : u.length < 1000000) : Ctr Tryz.prog 55 [.sl (u.map encK), .int .i64 x] [] (ret [.bool (decide (∃ k ∈ u, (k : Int) = x))]) := by
 apply ctr_b A55_ok rfl (Nat.le_of_ble_eq_true rfl)
 unfold A55
 simp only [initL, Nat.reduceAdd]
 simp -implicitDefEqProofs (disch := omega) only [↓reduceIte, go_sem, reduceToNat, reduceAdd, reduceLeDiff, reduceEqDiff, reduceSub, reduceMul, reduceCtorEq]
 refine callL (C87 u x hl) ?_
 simp -implicitDefEqProofs (disch := omega) only [↓reduceIte, go_sem, reduceToNat, reduceAdd, reduceLeDiff, reduceEqDiff, reduceSub, reduceMul, reduceCtorEq]
 have := idxI_ge u x
 simp -implicitDefEqProofs (disch := omega) only [↓reduceIte, go_sem, reduceToNat, reduceAdd, reduceLeDiff, reduceEqDiff, reduceSub, reduceMul, reduceCtorEq, this]
 exact ⟨rfl, rfl⟩
theorem C89 (u : List Nat) (hl : u.length < 1000000) : Ctr Tryz.prog 89 [.sl (u.map encK)] [] (ret [.sl (u.map encK)]) := by
 apply ctr_b A89_ok rfl (Nat.le_of_ble_eq_true rfl)
 unfold A89
 simp only [initL, Nat.reduceAdd]
 have hall : (∀ c ∈ u.map encK, c.length = 1) = True := by simp [encK]
 have hlen : (u.map encK).length = u.length := by simp
 cases u with
 | nil =>
  simp -implicitDefEqProofs (disch := omega) only [↓reduceIte, go_sem, reduceToNat, reduceAdd, reduceLeDiff, reduceEqDiff, reduceSub, reduceMul, reduceCtorEq]
  exact ⟨rfl, rfl⟩
 | cons k r =>
  simp only [List.map_cons] at hall
  simp only [List.length_cons] at hl
  simp -implicitDefEqProofs (disch := omega) only [↓reduceIte, go_sem, reduceToNat, reduceAdd, reduceLeDiff, reduceEqDiff, reduceSub, reduceMul, reduceCtorEq, hall]
  exact ⟨rfl, rfl⟩
theorem C84 (n : Int) : Ctr Tryz.prog 84 [.int .i64 n] [] (ret [.bool (decide (20 ≤ n ∧ n ≤ 23))]) := by
 apply ctr_b A84_ok rfl (Nat.le_of_ble_eq_true rfl)
 unfold A84
 simp only [initL, Nat.reduceAdd]
 simp -implicitDefEqProofs (disch := omega) only [↓reduceIte, go_sem, reduceToNat, reduceAdd, reduceLeDiff, reduceEqDiff, reduceSub, reduceMul, reduceCtorEq]
 refine ifD (fun h => ?_) (fun h => ?_)
 ·simp -implicitDefEqProofs (disch := omega) only [↓reduceIte, go_sem, reduceToNat, reduceAdd, reduceLeDiff, reduceEqDiff, reduceSub, reduceMul, reduceCtorEq]
  refine ⟨?_, rfl⟩
  congr 1
  simp
  omega
 ·simp -implicitDefEqProofs (disch := omega) only [↓reduceIte, go_sem, reduceToNat, reduceAdd, reduceLeDiff, reduceEqDiff, reduceSub, reduceMul, reduceCtorEq]
  refine ⟨?_, rfl⟩
  congr 1
  simp
  omega
/-- What a block ends with, and whether it may. -/
def insZ : Ins := ⟨0, ⟨0, 0, 0, 0⟩, [], .empty, 0, [], []⟩
def lastP (b : Blk) : Ins × Bool := match b.code.getLast? with | some i => (i, decide (20 ≤ i.op ∧ i.op ≤ 23)) | none => (insZ, false)
theorem C53 (b : Blk) (hl : b.code.length ≤ 9223372036854775807) : Ctr Tryz.prog 53 [.agg (encBk b)] [] (ret [.agg (encIn (lastP b).1), .bool (lastP b).2]) := by
 apply ctr_b A53_ok rfl (Nat.le_of_ble_eq_true rfl)
 unfold A53
 simp only [initL, Nat.reduceAdd, encBk]
 simp -implicitDefEqProofs (disch := omega) only [↓reduceIte, go_sem, reduceToNat, reduceAdd, reduceLeDiff, reduceEqDiff, reduceSub, reduceMul, reduceCtorEq]
 refine ifE (fun e => ?_) (fun e => ?_)
 ·have h0 : b.code = [] := List.eq_nil_of_length_eq_zero (by omega)
  simp -implicitDefEqProofs (disch := omega) only [↓reduceIte, go_sem, reduceToNat, reduceAdd, reduceLeDiff, reduceEqDiff, reduceSub, reduceMul, reduceCtorEq]
  refine ⟨?_, rfl⟩
  simp [lastP, h0, insZ, encIn]
 ·have h0 : b.code ≠ [] := fun h => e (by rw [h]; rfl)
  have hp : 0 < b.code.length := List.length_pos_iff.2 h0
  obtain ⟨i, hi⟩ : ∃ i, b.code[b.code.length - 1]? = some i := ⟨_, List.getElem?_eq_getElem (by omega)⟩
  have hgl : b.code.getLast? = some i := by rw [List.getLast?_eq_getElem?, hi]
  have hw : IntKind.i64.wrap ((b.code.length : Int) - 1) = ((b.code.length - 1 : Nat) : Int) := by rw [wrap64 (by omega) (by omega)]; omega
  simp -implicitDefEqProofs (disch := omega) only [↓reduceIte, go_sem, reduceToNat, reduceAdd, reduceLeDiff, reduceEqDiff, reduceSub, reduceMul, reduceCtorEq, hw, hi, encIn]
  refine callL (C84 i.op) ?_
  simp -implicitDefEqProofs (disch := omega) only [↓reduceIte, go_sem, reduceToNat, reduceAdd, reduceLeDiff, reduceEqDiff, reduceSub, reduceMul, reduceCtorEq]
  refine accL (by kernel_rfl) ?_
  simp -implicitDefEqProofs (disch := omega) only [↓reduceIte, go_sem, reduceToNat, reduceAdd, reduceLeDiff, reduceEqDiff, reduceSub, reduceMul, reduceCtorEq]
  refine ⟨?_, rfl⟩
  simp [lastP, hgl, encIn]
/- graph.New. -/
def rowsF (n : Nat) (g : Nat → List Nat) : List (List Nat) := (List.range n).map g
theorem rowsF_len {n : Nat} {g : Nat → List Nat} : (rowsF n g).length = n := by simp [rowsF]
theorem rowsF_get {n i : Nat} {g : Nat → List Nat} (h : i < n) : (rowsF n g)[i]? = some (g i) := by simp [rowsF, h]
theorem rowsF_congr {n : Nat} {g g' : Nat → List Nat} (h : ∀ i, i < n → g i = g' i) : rowsF n g = rowsF n g' := List.map_congr_left fun i hi => h i (List.mem_range.1 hi)
theorem rowsF_set {n i : Nat} {g : Nat → List Nat} {x : List Nat} : (rowsF n g).set i x = rowsF n (fun j => if j = i then x else g j) := by
 apply List.ext_getElem?
 intro k
 rw [List.getElem?_set]
 by_cases hk : k < n
 ·rw [rowsF_get hk, rowsF_get hk]
  by_cases h : k = i
  ·subst h
   simp [rowsF_len, hk]
  ·rw [if_neg (Ne.symm h), if_neg h]
 ·have e1 : (rowsF n g)[k]? = none := List.getElem?_eq_none (by rw [rowsF_len]; omega)
  have e2 : (rowsF n (fun j => if j = i then x else g j))[k]? = none := List.getElem?_eq_none (by rw [rowsF_len]; omega)
  rw [e1, e2]
  split
  ·rw [if_neg (by rw [rowsF_len]; omega)]
  ·rfl
def sG (bs : List Blk) (s : Nat) (cur : List Nat) (i : Nat) : List Nat := if i < s then (succF bs).getD i [] else if i = s then cur else []
def pG (bs : List Blk) (s : Nat) (cur : List Nat) (t : Nat) : List Nat := ((List.range s).filter fun i => decide (t ∈ (succF bs).getD i [])) ++ (if t ∈ cur then [s] else [])
theorem sG_zero {bs : List Blk} {i : Nat} : sG bs 0 [] i = [] := by unfold sG; simp
theorem pG_zero {bs : List Blk} {i : Nat} : pG bs 0 [] i = [] := by unfold pG; simp
theorem sG_next {bs : List Blk} {s i : Nat} : sG bs s ((succF bs).getD s []) i = sG bs (s + 1) [] i := by
 unfold sG
 by_cases h : i < s
 ·rw [if_pos h, if_pos (by omega)]
 ·rw [if_neg h]
  by_cases h2 : i = s
  ·subst h2
   rw [if_pos rfl, if_pos (by omega)]
  ·rw [if_neg h2, if_neg (by omega)]
   split <;> rfl
theorem pG_next {bs : List Blk} {s t : Nat} : pG bs s ((succF bs).getD s []) t = pG bs (s + 1) [] t := by
 unfold pG
 rw [List.range_succ, List.filter_append]
 simp only [List.filter_cons, List.filter_nil, List.not_mem_nil, if_false, List.append_nil]
 by_cases h : t ∈ (succF bs).getD s []
 ·simp [h]
 ·simp [h]
theorem sG_set {bs : List Blk} {s x j : Nat} {cur : List Nat} : (if j = s then cur ++ [x] else sG bs s cur j) = sG bs s (cur ++ [x]) j := by
 unfold sG
 by_cases h : j = s
 ·subst h; simp
 ·rw [if_neg h, if_neg h, if_neg h]
theorem pG_set {bs : List Blk} {s x j : Nat} {cur : List Nat} (hx : x ∉ cur) : (if j = x then pG bs s cur x ++ [s] else pG bs s cur j) = pG bs s (cur ++ [x]) j := by
 unfold pG
 by_cases h : j = x
 ·subst h
  simp [hx]
 ·rw [if_neg h]
  simp [h]
theorem rows_done (bs : List Blk) : rowsF bs.length (sG bs bs.length []) = succF bs := by
 apply List.ext_getElem?
 intro k
 by_cases hk : k < bs.length
 ·rw [rowsF_get hk]
  unfold sG
  rw [if_pos hk]
  simp [succF, hk]
 ·have e1 : (rowsF bs.length (sG bs bs.length []))[k]? = none := List.getElem?_eq_none (by rw [rowsF_len]; omega)
  have e2 : (succF bs)[k]? = none := List.getElem?_eq_none (by simp [succF]; omega)
  rw [e1, e2]
theorem preds_done (bs : List Blk) : rowsF bs.length (pG bs bs.length []) = predF (succF bs) := by
 unfold predF
 have : (succF bs).length = bs.length := by simp [succF]
 rw [this]
 refine rowsF_congr fun i hi => ?_
 unfold pG predR
 rw [this]
 simp
def outG (f : Fnc) (n s : Nat) (S P : List (List Nat)) : St := ⟨[(1, .rp (encFn f)), (3, .ref 20 0), (22, .sl (f.blocks.map encBk)), (23, .int .i64 (n : Int)), (24, .int .i64 (s : Int))],
 (20, .box [.bs 14 0 n, .bs 18 0 n]) :: (14, .box (cellsR 1000 0 S)) :: (18, .box (cellsR 1001 0 P)) :: tailR S P⟩
def inG (f : Fnc) (n s : Nat) (lb : List ByteArray) (j : Nat) (S P : List (List Nat)) : St := ⟨[(1, .rp (encFn f)), (3, .ref 20 0), (4, .int .i64 (s : Int)), (22, .sl (f.blocks.map encBk)), (23, .int .i64 (n : Int)), (24, .int .i64 (s : Int)), (37, .sl (lb.map encSt)), (38, .int .i64 (lb.length : Int)), (39, .int .i64 (j : Int))],
 (20, .box [.bs 14 0 n, .bs 18 0 n]) :: (14, .box (cellsR 1000 0 S)) :: (18, .box (cellsR 1001 0 P)) :: tailR S P⟩
theorem rowsF_nil {n : Nat} {g : Nat → List Nat} (h : ∀ i, g i = []) : rowsF n g = List.replicate n [] := by
 apply List.ext_getElem?
 intro k
 by_cases hk : k < n
 ·rw [rowsF_get hk, h]; simp [hk]
 ·have e1 : (rowsF n g)[k]? = none := List.getElem?_eq_none (by rw [rowsF_len]; omega)
  rw [e1]
  simp [hk]
theorem lastP_labels {b : Blk} (e : (lastP b).2 = true) : labelsOf b = (lastP b).1.labels := by
 unfold lastP at e ⊢
 unfold labelsOf lastOp
 cases hx : b.code.getLast? with
 | none => rw [hx] at e; cases e
 | some i => rw [hx] at e; simp at e; simp; rw [if_pos e]
theorem lastP_len {b : Blk} (h : b.code.length ≤ 9223372036854775807 ∧ ∀ i ∈ b.code, i.labels.length ≤ 9223372036854775807) (e : (lastP b).2 = true) : (lastP b).1.labels.length ≤ 9223372036854775807 := by
 unfold lastP at e ⊢
 cases hx : b.code.getLast? with
 | none => rw [hx] at e; cases e
 | some i => exact h.2 i (List.mem_of_getLast? hx)
theorem pG_len {bs : List Blk} {s x n : Nat} {cur : List Nat} (hs : s ≤ n) (h : s < n) : (pG bs s cur x).length ≤ n := by
 unfold pG
 rw [List.length_append]
 have h1 := List.length_filter_le (fun i => decide (x ∈ (succF bs).getD i [])) (List.range s)
 rw [List.length_range] at h1
 split <;> simp only [List.length_cons, List.length_nil] <;> omega
theorem C31 (f : Fnc) (hl : f.blocks.length < 1000000) (hc : ∀ b ∈ f.blocks, b.code.length ≤ 9223372036854775807 ∧ ∀ i ∈ b.code, i.labels.length ≤ 9223372036854775807) : Ctr Tryz.prog 31 [.agg (encFn f)] [] (ret [grP (succF f.blocks) (predF (succF f.blocks))]) := by
 apply ctr_b A31_ok rfl (Nat.le_of_ble_eq_true rfl)
 unfold A31
 simp only [initL, Nat.reduceAdd]
 simp -implicitDefEqProofs (disch := omega) only [↓reduceIte, go_sem, reduceToNat, reduceAdd, reduceLeDiff, reduceEqDiff, reduceSub, reduceMul, reduceCtorEq, encFn]
 refine ckL ⟨Nat.le_of_ble_eq_true rfl, fun i hi => ⟨rfl, by omega⟩⟩ ?_
 have hN : optA (delA (putsO [] (rowOs 1000 2 1 0 f.blocks.length)) 14) 18 = none := by
  rw [optA_del, if_neg (by omega), rowOs_eq, optA_putsO, optA_objsR, if_neg (by omega)]
  rfl
 simp -implicitDefEqProofs (disch := omega) only [↓reduceIte, go_sem, reduceToNat, reduceAdd, reduceLeDiff, reduceEqDiff, reduceSub, reduceMul, reduceCtorEq, puts_mk, hN]
 refine ckL ⟨Nat.le_of_ble_eq_true rfl, fun i hi => ⟨?_, by omega⟩⟩ ?_
 ·show optA ((14, _) :: delA (putsO [] (rowOs 1000 2 1 0 f.blocks.length)) 14) (1001 + 2 * i) = none
  rw [optA, beq_ne (by omega), cond_false, optA_del, if_neg (by omega), rowOs_eq, optA_putsO, optA_objsR, if_neg (by omega)]
  rfl
 simp -implicitDefEqProofs (disch := omega) only [↓reduceIte, go_sem, reduceToNat, reduceAdd, reduceLeDiff, reduceEqDiff, reduceSub, reduceMul, reduceCtorEq, puts_mk]
 have hN2 : optA (delA (putsO ((14, Ob.box (mkbC (some (1000, 2, 1)) AV.dead f.blocks.length)) :: delA (putsO [] (rowOs 1000 2 1 0 f.blocks.length)) 14) (rowOs 1001 2 1 0 f.blocks.length)) 18) 20 = none := by
  simp only [rowOs_eq]
  rw [optA_del, if_neg (by omega), optA_putsO, optA_objsR, if_neg (by omega), optA, beq_ne (by omega), cond_false, optA_del, if_neg (by omega), optA_putsO, optA_objsR, if_neg (by omega)]
  rfl
 simp -implicitDefEqProofs (disch := omega) only [↓reduceIte, go_sem, reduceToNat, reduceAdd, reduceLeDiff, reduceEqDiff, reduceSub, reduceMul, reduceCtorEq, hN2]
 refine accL (by simp [accsOk, pairsOk, acc_two, acc_n0, acc_0n]) ?_
 simp -implicitDefEqProofs (disch := omega) only [↓reduceIte, go_sem, reduceToNat, reduceAdd, reduceLeDiff, reduceEqDiff, reduceSub, reduceMul, reduceCtorEq, encFn, puts_mk]
 have h0S : rowsF f.blocks.length (sG f.blocks 0 []) = List.replicate f.blocks.length [] := rowsF_nil fun i => sG_zero
 have h0P : rowsF f.blocks.length (pG f.blocks 0 []) = List.replicate f.blocks.length [] := rowsF_nil fun i => pG_zero
 refine loopD (σ := Nat) (fun s => outG f f.blocks.length s (rowsF f.blocks.length (sG f.blocks s [])) (rowsF f.blocks.length (pG f.blocks s []))) (fun s => s ≤ f.blocks.length) (fun s => f.blocks.length - s) 0 ?_ (Nat.zero_le _) ?_
 ·refine .drop .refl (reg_sub ?_) fun k => ?_
  ·intro p hp
   simp only [List.mem_cons, List.not_mem_nil, or_false] at hp
   rcases hp with rfl | rfl | rfl | rfl | rfl <;> (simp -implicitDefEqProofs (disch := omega) only [↓reduceIte, go_sem, reduceToNat, reduceAdd, reduceLeDiff, reduceEqDiff, reduceSub, reduceMul, reduceCtorEq, encFn]; try rfl)
  ·rw [h0S, h0P]
   exact start_ob
 ·intro s hs
  have hSl : (rowsF f.blocks.length (sG f.blocks s [])).length = f.blocks.length := rowsF_len
  simp -implicitDefEqProofs (disch := omega) only [↓reduceIte, go_sem, reduceToNat, reduceAdd, reduceLeDiff, reduceEqDiff, reduceSub, reduceMul, reduceCtorEq, outG]
  refine ifD (fun c => ?_) (fun c => ?_)
  ·obtain ⟨b, hb⟩ : ∃ b, f.blocks[s]? = some b := ⟨_, List.getElem?_eq_getElem (by omega)⟩
   have hbm := List.mem_of_getElem? hb
   simp -implicitDefEqProofs (disch := omega) only [↓reduceIte, go_sem, reduceToNat, reduceAdd, reduceLeDiff, reduceEqDiff, reduceSub, reduceMul, reduceCtorEq, outG, hb, encBk, tail_low, tail_del, tail_fz, cells_fz]
   refine callL (C53 b (hc b hbm).1) ?_
   simp -implicitDefEqProofs (disch := omega) only [↓reduceIte, go_sem, reduceToNat, reduceAdd, reduceLeDiff, reduceEqDiff, reduceSub, reduceMul, reduceCtorEq, encIn, tail_low, tail_del, tail_fz, cells_fz]
   have hsg : (succF f.blocks).getD s [] = succB f.blocks b := by simp [succF, hb]
   have hend : ∀ cur, cur = (succF f.blocks).getD s [] → rowsF f.blocks.length (sG f.blocks s cur) = rowsF f.blocks.length (sG f.blocks (s + 1) []) ∧ rowsF f.blocks.length (pG f.blocks s cur) = rowsF f.blocks.length (pG f.blocks (s + 1) []) := fun cur e => by
    subst e
    exact ⟨rowsF_congr fun i _ => sG_next, rowsF_congr fun i _ => pG_next⟩
   refine ifL (fun e => ?_) (fun e => ?_)
   ·simp -implicitDefEqProofs (disch := omega) only [↓reduceIte, go_sem, reduceToNat, reduceAdd, reduceLeDiff, reduceEqDiff, reduceSub, reduceMul, reduceCtorEq, encIn, tail_low, tail_del, tail_fz, cells_fz]
    have hlb := lastP_labels e
    have hlm : (lastP b).1.labels.length ≤ 9223372036854775807 := lastP_len (hc b hbm) e
    generalize (lastP b).1.labels = lb at hlb hlm ⊢
    refine loopD (σ := Nat) (fun j => inG f f.blocks.length s lb j (rowsF f.blocks.length (sG f.blocks s ((lb.take j).foldl (stepL f.blocks) []))) (rowsF f.blocks.length (pG f.blocks s ((lb.take j).foldl (stepL f.blocks) [])))) (fun j => j ≤ lb.length) (fun j => lb.length - j) 0 ?_ (Nat.zero_le _) ?_
    ·refine .drop .refl (reg_sub ?_) fun k => rfl
     intro p hp
     simp only [List.mem_cons, List.not_mem_nil, or_false] at hp
     rcases hp with rfl | rfl | rfl | rfl | rfl | rfl | rfl | rfl | rfl <;> (simp -implicitDefEqProofs (disch := omega) only [↓reduceIte, go_sem, reduceToNat, reduceAdd, reduceLeDiff, reduceEqDiff, reduceSub, reduceMul, reduceCtorEq, encFn]; try rfl)
    ·intro j hj
     simp -implicitDefEqProofs (disch := omega) only [↓reduceIte, go_sem, reduceToNat, reduceAdd, reduceLeDiff, reduceEqDiff, reduceSub, reduceMul, reduceCtorEq, inG]
     refine ifD (fun c2 => ?_) (fun c2 => ?_)
     ·obtain ⟨l, hl2⟩ : ∃ l, lb[j]? = some l := ⟨_, List.getElem?_eq_getElem (by omega)⟩
      have hcur : ∀ x ∈ (lb.take j).foldl (stepL f.blocks) [], x < f.blocks.length := foldl_inv (P := fun l => ∀ x ∈ l, x < f.blocks.length) (fun _ _ h => stepL_lt h) _ _ (fun x hx => by cases hx)
      have hnd : ((lb.take j).foldl (stepL f.blocks) []).Nodup := foldl_inv (P := List.Nodup) (fun _ _ h => stepL_nodup h) _ _ List.nodup_nil
      have hclen := nodup_le hnd hcur
      have hstep : (lb.take (j + 1)).foldl (stepL f.blocks) [] = stepL f.blocks ((lb.take j).foldl (stepL f.blocks) []) l := by
       rw [snoc_take hl2, List.foldl_append]; rfl
      generalize (lb.take j).foldl (stepL f.blocks) [] = cur at hcur hnd hclen hstep ⊢
      have hS : (rowsF f.blocks.length (sG f.blocks s cur))[s]? = some cur := by
       rw [rowsF_get (by omega)]
       simp [sG]
      have hSs : ∀ x, (rowsF f.blocks.length (sG f.blocks s cur)).set s (cur ++ [x]) = rowsF f.blocks.length (sG f.blocks s (cur ++ [x])) := fun x => by
       rw [rowsF_set]
       exact rowsF_congr fun i _ => sG_set
      have hPs : ∀ x, x ∉ cur → (rowsF f.blocks.length (pG f.blocks s cur)).set x (pG f.blocks s cur x ++ [s]) = rowsF f.blocks.length (pG f.blocks s (cur ++ [x])) := fun x hx => by
       rw [rowsF_set]
       exact rowsF_congr fun i _ => pG_set hx
      have hPg : ∀ x, x < f.blocks.length → (rowsF f.blocks.length (pG f.blocks s cur))[x]? = some (pG f.blocks s cur x) := fun x hx => rowsF_get hx
      have hPl : ∀ x, (pG f.blocks s cur x).length ≤ f.blocks.length := fun x => pG_len hs (by omega)
      have hSlen : (rowsF f.blocks.length (sG f.blocks s cur)).length = f.blocks.length := rowsF_len
      have hPlen : (rowsF f.blocks.length (pG f.blocks s cur)).length = f.blocks.length := rowsF_len
      generalize hSe : rowsF f.blocks.length (sG f.blocks s cur) = S at hS hSs hSlen ⊢
      generalize hPe : rowsF f.blocks.length (pG f.blocks s cur) = P at hPs hPg hPlen ⊢
      simp -implicitDefEqProofs (disch := omega) only [↓reduceIte, go_sem, reduceToNat, reduceAdd, reduceLeDiff, reduceEqDiff, reduceSub, reduceMul, reduceCtorEq, inG, hl2, encSt, encFn]
      refine callL (C54 f l hl) ?_
      simp -implicitDefEqProofs (disch := omega) only [↓reduceIte, go_sem, reduceToNat, reduceAdd, reduceLeDiff, reduceEqDiff, reduceSub, reduceMul, reduceCtorEq, inG, hl2, encSt, encFn]
      cases hf : findN f.blocks l with
      | none =>
       have hfi : findI f.blocks l = -1 := by rw [findI, hf]; rfl
       have hst : stepL f.blocks cur l = cur := by rw [stepL, hf]
       simp -implicitDefEqProofs (disch := omega) only [↓reduceIte, go_sem, reduceToNat, reduceAdd, reduceLeDiff, reduceEqDiff, reduceSub, reduceMul, reduceCtorEq, inG, encFn, encSt, hl2, hfi, show decide ((-1 : Int) ≥ 0) = false from rfl]
       refine ⟨j + 1, .drop .refl (reg_sub ?_) fun k => by rw [hstep, hst, ← hSe, ← hPe]; rfl, by omega, by omega⟩
       intro p hp
       simp only [List.mem_cons, List.not_mem_nil, or_false] at hp
       rcases hp with rfl | rfl | rfl | rfl | rfl | rfl | rfl | rfl | rfl <;> (simp -implicitDefEqProofs (disch := omega) only [↓reduceIte, go_sem, reduceToNat, reduceAdd, reduceLeDiff, reduceEqDiff, reduceSub, reduceMul, reduceCtorEq, encFn]; try rfl)
      | some t =>
       have hfi : findI f.blocks l = (t : Int) := by rw [findI, hf]; rfl
       have htn := findN_some hf
       have hd1 := cellsR_drop (base := 1000) hS
       simp only [hsR] at hd1
       have hK1 := tail_S (P := P) hS
       simp only [obR] at hK1
       generalize hKe : 1000 + 2 * s = K at hd1 hK1
       have k1 : (20 = K) = False := by simp; omega
       have k2 : (14 = K) = False := by simp; omega
       have k3 : (18 = K) = False := by simp; omega
       have k4 : (K = 20) = False := by simp; omega
       have k5 : (K = 14) = False := by simp; omega
       have k6 : (K = 18) = False := by simp; omega
       simp -implicitDefEqProofs (disch := omega) only [↓reduceIte, go_sem, reduceToNat, reduceAdd, reduceLeDiff, reduceEqDiff, reduceSub, reduceMul, reduceCtorEq, inG, encFn, encSt, hl2, hfi, show decide ((t : Int) ≥ 0) = true from decide_eq_true (Int.natCast_nonneg t), hd1, hK1, k1, k2, k3]
       refine callL (C55 cur t (by omega)) ?_
       have hmem : (∃ k ∈ cur, (k : Int) = (t : Int)) ↔ t ∈ cur := ⟨fun ⟨k, hk, e⟩ => by rwa [show t = k by omega], fun h => ⟨t, h, rfl⟩⟩
       by_cases hin : t ∈ cur
       ·have hq : decide (∃ k ∈ cur, (k : Int) = (t : Int)) = true := decide_eq_true (hmem.2 hin)
        have hst : stepL f.blocks cur l = cur := by rw [stepL, hf]; simp [hin]
        simp -implicitDefEqProofs (disch := omega) only [↓reduceIte, go_sem, reduceToNat, reduceAdd, reduceLeDiff, reduceEqDiff, reduceSub, reduceMul, reduceCtorEq, inG, encFn, encSt, hl2, hfi, show decide ((t : Int) ≥ 0) = true from decide_eq_true (Int.natCast_nonneg t), hd1, hK1, k1, k2, k3, hq]
        refine ⟨j + 1, .drop .refl (reg_sub ?_) fun k => by rw [hstep, hst, ← hSe, ← hPe]; rfl, by omega, by omega⟩
        intro p hp
        simp only [List.mem_cons, List.not_mem_nil, or_false] at hp
        rcases hp with rfl | rfl | rfl | rfl | rfl | rfl | rfl | rfl | rfl <;> (simp -implicitDefEqProofs (disch := omega) only [↓reduceIte, go_sem, reduceToNat, reduceAdd, reduceLeDiff, reduceEqDiff, reduceSub, reduceMul, reduceCtorEq, encFn]; try rfl)
       ·have hq : decide (∃ k ∈ cur, (k : Int) = (t : Int)) = false := decide_eq_false (fun h => hin (hmem.1 h))
        have hst : stepL f.blocks cur l = cur ++ [t] := by rw [stepL, hf]; simp [hin]
        have hc1 : ((cur.length + 1 : Nat) : Int) * ((8 : Nat) : Int) ≤ 70368744177664 := by omega
        have hcl : (cellsR 1000 0 S).length = f.blocks.length := by rw [cellsR_len, hSlen]
        simp -implicitDefEqProofs (disch := omega) only [↓reduceIte, go_sem, reduceToNat, reduceAdd, reduceLeDiff, reduceEqDiff, reduceSub, reduceMul, reduceCtorEq, inG, encFn, encSt, hl2, hfi, show decide ((t : Int) ≥ 0) = true from decide_eq_true (Int.natCast_nonneg t), hd1, hK1, k1, k2, k3, k4, k5, k6, hq, hc1, hcl]
        refine accL (by simp [accsOk, pairsOk, acc_n0, acc_0n, accClash, meets, nbd, k1, k2, k3, k4, k5, k6]) ?_
        have hPt := hPg t htn
        have hPtl := hPl t
        have hPt2 := hPs t hin
        generalize pG f.blocks s cur t = pr at hPt hPtl hPt2
        have hd2 := cellsR_drop (base := 1001) hPt
        simp only [hsR] at hd2
        have hK2 := tail_P (S := S) hPt
        simp only [obR] at hK2
        generalize hKe2 : 1001 + 2 * t = K2 at hd2 hK2
        have m1 : (20 = K2) = False := by simp; omega
        have m2 : (14 = K2) = False := by simp; omega
        have m3 : (18 = K2) = False := by simp; omega
        have m4 : (K2 = 20) = False := by simp; omega
        have m5 : (K2 = 14) = False := by simp; omega
        have m6 : (K2 = 18) = False := by simp; omega
        have m7 : (K = K2) = False := by simp; omega
        have m8 : (K2 = K) = False := by simp; omega
        have hc2 : ((pr.length + 1 : Nat) : Int) * ((8 : Nat) : Int) ≤ 70368744177664 := by omega
        have hcl2 : (cellsR 1001 0 P).length = f.blocks.length := by rw [cellsR_len, hPlen]
        simp -implicitDefEqProofs (disch := omega) only [↓reduceIte, go_sem, reduceToNat, reduceAdd, reduceLeDiff, reduceEqDiff, reduceSub, reduceMul, reduceCtorEq, inG, encFn, encSt, hl2, hfi, hd1, hK1, k1, k2, k3, k4, k5, k6, hc1, hcl, hd2, hK2, m1, m2, m3, m4, m5, m6, m7, m8, hc2, hcl2, optA_del]
        refine accL (by simp [accsOk, pairsOk, acc_n0, acc_0n, accClash, meets, nbd, m1, m2, m3, m4, m5, m6]) ?_
        simp -implicitDefEqProofs (disch := omega) only [↓reduceIte, go_sem, reduceToNat, reduceAdd, reduceLeDiff, reduceEqDiff, reduceSub, reduceMul, reduceCtorEq, inG, encFn, encSt, hl2, hfi, hd1, hK1, k1, k2, k3, k4, k5, k6, hc1, hcl, hd2, hK2, m1, m2, m3, m4, m5, m6, m7, m8, hc2, hcl2, optA_del]
        refine ⟨j + 1, .drop .refl (reg_sub ?_) fun k => ?_, by omega, by omega⟩
        ·intro p hp
         simp only [List.mem_cons, List.not_mem_nil, or_false] at hp
         rcases hp with rfl | rfl | rfl | rfl | rfl | rfl | rfl | rfl | rfl <;> (simp -implicitDefEqProofs (disch := omega) only [↓reduceIte, go_sem, reduceToNat, reduceAdd, reduceLeDiff, reduceEqDiff, reduceSub, reduceMul, reduceCtorEq, encFn]; try rfl)
        ·rw [hstep, hst, ← hSs, ← hPt2]
         have q1 := cellsR_set (base := 1000) (rs := S) (i := 0) (j := s) (r := cur ++ [t]) (by omega)
         have q2 := cellsR_set (base := 1001) (rs := P) (i := 0) (j := t) (r := pr ++ [s]) (by omega)
         have u := upd_ob (n := f.blocks.length) (k := k) (A := .box [.bs 14 0 f.blocks.length, .bs 18 0 f.blocks.length]) hKe hKe2 hS hPt (cur' := cur ++ [t]) (pr' := pr ++ [s]) q2 q1
         simp only [obR, hsR, setAt, Nat.zero_add, hKe, hKe2, List.length_append, List.length_cons, List.length_nil, List.map_append, List.map_cons, List.map_nil, encK] at u
         exact u
     ·simp -implicitDefEqProofs (disch := omega) only [↓reduceIte, go_sem, reduceToNat, reduceAdd, reduceLeDiff, reduceEqDiff, reduceSub, reduceMul, reduceCtorEq, inG]
      have hje : j = lb.length := by omega
      subst hje
      obtain ⟨g1, g2⟩ := hend ((lb.take lb.length).foldl (stepL f.blocks) []) (by rw [hsg, List.take_length, succB, hlb])
      refine ⟨s + 1, .drop .refl (reg_sub ?_) fun k => ?_, by omega, by omega⟩
      ·intro p hp
       simp only [List.mem_cons, List.not_mem_nil, or_false] at hp
       rcases hp with rfl | rfl | rfl | rfl | rfl <;> (simp -implicitDefEqProofs (disch := omega) only [↓reduceIte, go_sem, reduceToNat, reduceAdd, reduceLeDiff, reduceEqDiff, reduceSub, reduceMul, reduceCtorEq, encFn]; try rfl)
      ·rw [← g1, ← g2]
       rfl
   ·simp -implicitDefEqProofs (disch := omega) only [↓reduceIte, go_sem, reduceToNat, reduceAdd, reduceLeDiff, reduceEqDiff, reduceSub, reduceMul, reduceCtorEq, encIn, tail_low, tail_del, tail_fz, cells_fz]
    have h0 : [] = (succF f.blocks).getD s [] := by
     rw [hsg]
     unfold succB labelsOf lastOp
     unfold lastP at e
     cases hx : b.code.getLast? with
     | none => rfl
     | some i => rw [hx] at e; simp at e; simp; rw [if_neg (by omega)]; rfl
    obtain ⟨g1, g2⟩ := hend [] h0
    refine ⟨s + 1, .drop .refl (reg_sub ?_) fun k => ?_, by omega, by omega⟩
    ·intro p hp
     simp only [List.mem_cons, List.not_mem_nil, or_false] at hp
     rcases hp with rfl | rfl | rfl | rfl | rfl <;> (simp -implicitDefEqProofs (disch := omega) only [↓reduceIte, go_sem, reduceToNat, reduceAdd, reduceLeDiff, reduceEqDiff, reduceSub, reduceMul, reduceCtorEq, encFn]; try rfl)
    ·rw [← g1, ← g2]
     rfl
  ·simp -implicitDefEqProofs (disch := omega) only [↓reduceIte, go_sem, reduceToNat, reduceAdd, reduceLeDiff, reduceEqDiff, reduceSub, reduceMul, reduceCtorEq, outG]
   have hse : s = f.blocks.length := by omega
   subst hse
   refine dynL (st' := ⟨[(2, grP (succF f.blocks) (predF (succF f.blocks)))], []⟩) ?_ ?_
   ·rw [rows_done, preds_done]
    refine Stp.trans (b := stG f.blocks.length [] (succF f.blocks) [] (predF (succF f.blocks))) ?_ (frz_G (by simp [succF]) (by simp [predF, succF]))
    refine .drop .refl (reg_sub ?_) fun k => ?_
    ·intro p hp
     simp only [List.mem_cons, List.not_mem_nil, or_false] at hp
     subst hp
     simp -implicitDefEqProofs (disch := omega) only [↓reduceIte, go_sem, reduceToNat, reduceAdd, reduceLeDiff, reduceEqDiff, reduceSub, reduceMul, reduceCtorEq]
    ·rfl
   ·simp -implicitDefEqProofs (disch := omega) only [↓reduceIte, go_sem, reduceToNat, reduceAdd, reduceLeDiff, reduceEqDiff, reduceSub, reduceMul, reduceCtorEq]
    exact ⟨rfl, rfl⟩
/- The reference's graph; a graph's length and rows. -/
theorem C14 (f : Fnc) (l : ByteArray) (hl : f.blocks.length < 1000000) : Ctr Tryz.prog 14 [.agg (encFn f), .str l] [] (ret [.int .i64 (findI f.blocks l)]) := by
 apply ctr_b A14_ok rfl (Nat.le_of_ble_eq_true rfl)
 unfold A14
 simp only [initL, Nat.reduceAdd]
 simp -implicitDefEqProofs (disch := omega) only [↓reduceIte, go_sem, reduceToNat, reduceAdd, reduceLeDiff, reduceEqDiff, reduceSub, reduceMul, reduceCtorEq, encFn]
 refine loopL (σ := Nat) (fun s => ⟨[(1, .str l), (2, .rp (encFn f)), (5, .int .i64 s)], []⟩) (fun s => s ≤ f.blocks.length ∧ ∀ j, j < s → ∀ c, f.blocks[j]? = some c → c.label ≠ l) (fun s => f.blocks.length - s) 0 (by simp -implicitDefEqProofs (disch := omega) only [↓reduceIte, go_sem, reduceToNat, reduceAdd, reduceLeDiff, reduceEqDiff, reduceSub, reduceMul, reduceCtorEq, encFn]; rfl) ⟨by omega, fun j hj => by omega⟩ ?_
 rintro s ⟨h1, h2⟩
 simp -implicitDefEqProofs (disch := omega) only [↓reduceIte, go_sem, reduceToNat, reduceAdd, reduceLeDiff, reduceEqDiff, reduceSub, reduceMul, reduceCtorEq, encFn]
 refine ifD (fun c => ?_) (fun c => ?_)
 ·obtain ⟨b, hb⟩ : ∃ b, f.blocks[s]? = some b := ⟨_, List.getElem?_eq_getElem (by omega)⟩
  simp -implicitDefEqProofs (disch := omega) only [↓reduceIte, go_sem, reduceToNat, reduceAdd, reduceLeDiff, reduceEqDiff, reduceSub, reduceMul, reduceCtorEq, encFn, hb, encBk]
  refine ifD (fun e => ?_) (fun e => ?_)
  ·simp -implicitDefEqProofs (disch := omega) only [↓reduceIte, go_sem, reduceToNat, reduceAdd, reduceLeDiff, reduceEqDiff, reduceSub, reduceMul, reduceCtorEq, encFn]
   refine ⟨?_, rfl⟩
   rw [findI, findN_of hb e h2]; rfl
  ·simp -implicitDefEqProofs (disch := omega) only [↓reduceIte, go_sem, reduceToNat, reduceAdd, reduceLeDiff, reduceEqDiff, reduceSub, reduceMul, reduceCtorEq, encFn]
   refine ⟨s + 1, by simp, ⟨by omega, fun j hj c hc => ?_⟩, by omega⟩
   by_cases hjs : j = s
   ·subst hjs; rw [hb] at hc; cases hc; exact e
   ·exact h2 j (by omega) c hc
 ·simp -implicitDefEqProofs (disch := omega) only [↓reduceIte, go_sem, reduceToNat, reduceAdd, reduceLeDiff, reduceEqDiff, reduceSub, reduceMul, reduceCtorEq, encFn]
  refine ⟨?_, rfl⟩
  rw [findI, findN_none fun j hj => h2 j (by omega)]; rfl
theorem C88 (S P : List (List Nat)) : Ctr Tryz.prog 88 [grP S P] [] (ret [.int .i64 (S.length : Int)]) := by
 apply ctr_b A88_ok rfl (Nat.le_of_ble_eq_true rfl)
 unfold A88
 simp only [initL, Nat.reduceAdd, grP, encRows]
 simp -implicitDefEqProofs (disch := omega) only [↓reduceIte, go_sem, reduceToNat, reduceAdd, reduceLeDiff, reduceEqDiff, reduceSub, reduceMul, reduceCtorEq]
 exact ⟨rfl, rfl⟩
/- Making a function of a draft: operands. -/
theorem C22 (v : Int) : Ctr Tryz.prog 22 [.int .i64 v] [] (ret [.agg (encO ⟨1, 0, v, 0⟩)]) := by
 apply ctr_b A22_ok rfl (Nat.le_of_ble_eq_true rfl)
 unfold A22
 simp only [initL, Nat.reduceAdd]
 simp -implicitDefEqProofs (disch := omega) only [↓reduceIte, go_sem, reduceToNat, reduceAdd, reduceLeDiff, reduceEqDiff, reduceSub, reduceMul, reduceCtorEq]
 exact ⟨rfl, rfl⟩
theorem C23 (v : Int) : Ctr Tryz.prog 23 [.int .i64 v] [] (ret [.agg (encO (immP v))]) := by
 apply ctr_b A23_ok rfl (Nat.le_of_ble_eq_true rfl)
 unfold A23
 simp only [initL, Nat.reduceAdd]
 simp -implicitDefEqProofs (disch := omega) only [↓reduceIte, go_sem, reduceToNat, reduceAdd, reduceLeDiff, reduceEqDiff, reduceSub, reduceMul, reduceCtorEq]
 exact ⟨rfl, rfl⟩
theorem mkIn (u : List Nat) (x : Nat) (hl : u.length < 1000000) : Ctr Tryz.prog 11 [.sl (u.map encK), .int .i64 (x : Int)] [] (ret [.bool (decide (x ∈ u))]) := by
 have := C11 u (x : Int) hl
 have e : decide (∃ k ∈ u, (k : Int) = (x : Int)) = decide (x ∈ u) := by
  rw [Bool.eq_iff_iff, decide_eq_true_iff, decide_eq_true_iff]
  exact ⟨fun ⟨k, hk, e⟩ => by rwa [show x = k by omega], fun hk => ⟨x, hk, rfl⟩⟩
 rwa [e] at this
/-- What makes a function, read only. -/
def mkR (nm : ByteArray) (rs ps bs : List (List AV)) (ids : Ids) (has : List Nat) : AV := .rp [.bool false, .str nm, .sl rs, .sl ps, .sl bs, .sl (ids.g.map encK), .sl (ids.x.map encK), .sl (has.map encK)]
theorem pickP_get {ids : List Nat} {k : Int} (h0 : 0 < ids.length) : ids[k.toNat % ids.length]? = some (pickP ids k) := getDq (Nat.mod_lt _ h0)
theorem C48 (nm : ByteArray) (rs ps bs : List (List AV)) (ids : Ids) (hi : ids.Ok) (has : List Nat) (hh : has.length < 1000000) (c : Int) (hc : c = 0 ∨ c = 1) (k : Int) (hk : By k) :
  Ctr Tryz.prog 48 [mkR nm rs ps bs ids has, .int .i64 c, .int .u8 k] [] (ret [.agg (encO (vregP (useV (ids.of c) has k)))]) := by
 have hk1 := hk.1
 have hk2 := hk.2
 have key : ∀ (l : List Nat), 0 < l.length → l.length ≤ 6 → Int.tmod k (l.length : Int) = ((k.toNat % l.length : Nat) : Int) ∧ l[k.toNat % l.length]? = some (pickP l k) ∧ l[0]? = some (l.getD 0 0) := fun l h0 h1 => ⟨tmod_nat hk1, pickP_get h0, getDq h0⟩
 rcases hc with rfl | rfl
 ·have h0 := hi.g0
  have h1 := hi.g1
  have hm := (key ids.g h0 (by omega)).1
  have hg := (key ids.g h0 (by omega)).2.1
  have hg0 := (key ids.g h0 (by omega)).2.2
  have hin := mkIn has (pickP ids.g k) hh
  have hv := C22 (pickP ids.g k : Int)
  have hv0 := C22 (ids.g.getD 0 0 : Int)
  simp only [encO] at hv hv0
  have ho : (ids.of 0) = ids.g := rfl
  rw [ho]
  have e1 : decide (pickP ids.g k ∈ has) = true → useV ids.g has k = pickP ids.g k := fun h => by unfold useV; rw [if_pos (by simpa using h)]
  have e2 : decide (pickP ids.g k ∈ has) = false → useV ids.g has k = ids.g.getD 0 0 := fun h => by unfold useV; rw [if_neg (by simpa using h)]
  generalize useV ids.g has k = u at e1 e2
  apply ctr_b A48_ok rfl (Nat.le_of_ble_eq_true rfl)
  unfold A48
  simp only [initL, Nat.reduceAdd, mkR]
  simp -implicitDefEqProofs (disch := omega) only [↓reduceIte, go_sem, reduceToNat, reduceAdd, reduceLeDiff, reduceEqDiff, reduceSub, reduceMul, reduceCtorEq, hm, hg, encK]
  refine callL hin ?_
  simp -implicitDefEqProofs (disch := omega) only [↓reduceIte, go_sem, reduceToNat, reduceAdd, reduceLeDiff, reduceEqDiff, reduceSub, reduceMul, reduceCtorEq, hm, hg, encK]
  refine ifL (fun e => ?_) (fun e => ?_)
  ·rw [e1 e]
   simp -implicitDefEqProofs (disch := omega) only [↓reduceIte, go_sem, reduceToNat, reduceAdd, reduceLeDiff, reduceEqDiff, reduceSub, reduceMul, reduceCtorEq, hg0, encK]
   refine callL hv ?_
   simp -implicitDefEqProofs (disch := omega) only [↓reduceIte, go_sem, reduceToNat, reduceAdd, reduceLeDiff, reduceEqDiff, reduceSub, reduceMul, reduceCtorEq, encO]
   exact ⟨rfl, rfl⟩
  ·rw [e2 e]
   simp -implicitDefEqProofs (disch := omega) only [↓reduceIte, go_sem, reduceToNat, reduceAdd, reduceLeDiff, reduceEqDiff, reduceSub, reduceMul, reduceCtorEq, hg0, encK]
   refine callL hv0 ?_
   simp -implicitDefEqProofs (disch := omega) only [↓reduceIte, go_sem, reduceToNat, reduceAdd, reduceLeDiff, reduceEqDiff, reduceSub, reduceMul, reduceCtorEq, encO]
   exact ⟨rfl, rfl⟩
 ·have h0 := hi.x0
  have h1 := hi.x1
  have hm := (key ids.x h0 (by omega)).1
  have hg := (key ids.x h0 (by omega)).2.1
  have hg0 := (key ids.x h0 (by omega)).2.2
  have hin := mkIn has (pickP ids.x k) hh
  have hv := C22 (pickP ids.x k : Int)
  have hv0 := C22 (ids.x.getD 0 0 : Int)
  simp only [encO] at hv hv0
  have ho : (ids.of 1) = ids.x := rfl
  rw [ho]
  have e1 : decide (pickP ids.x k ∈ has) = true → useV ids.x has k = pickP ids.x k := fun h => by unfold useV; rw [if_pos (by simpa using h)]
  have e2 : decide (pickP ids.x k ∈ has) = false → useV ids.x has k = ids.x.getD 0 0 := fun h => by unfold useV; rw [if_neg (by simpa using h)]
  generalize useV ids.x has k = u at e1 e2
  apply ctr_b A48_ok rfl (Nat.le_of_ble_eq_true rfl)
  unfold A48
  simp only [initL, Nat.reduceAdd, mkR]
  simp -implicitDefEqProofs (disch := omega) only [↓reduceIte, go_sem, reduceToNat, reduceAdd, reduceLeDiff, reduceEqDiff, reduceSub, reduceMul, reduceCtorEq, hm, hg, encK]
  refine callL hin ?_
  simp -implicitDefEqProofs (disch := omega) only [↓reduceIte, go_sem, reduceToNat, reduceAdd, reduceLeDiff, reduceEqDiff, reduceSub, reduceMul, reduceCtorEq, hm, hg, encK]
  refine ifL (fun e => ?_) (fun e => ?_)
  ·rw [e1 e]
   simp -implicitDefEqProofs (disch := omega) only [↓reduceIte, go_sem, reduceToNat, reduceAdd, reduceLeDiff, reduceEqDiff, reduceSub, reduceMul, reduceCtorEq, hg0, encK]
   refine callL hv ?_
   simp -implicitDefEqProofs (disch := omega) only [↓reduceIte, go_sem, reduceToNat, reduceAdd, reduceLeDiff, reduceEqDiff, reduceSub, reduceMul, reduceCtorEq, encO]
   exact ⟨rfl, rfl⟩
  ·rw [e2 e]
   simp -implicitDefEqProofs (disch := omega) only [↓reduceIte, go_sem, reduceToNat, reduceAdd, reduceLeDiff, reduceEqDiff, reduceSub, reduceMul, reduceCtorEq, hg0, encK]
   refine callL hv0 ?_
   simp -implicitDefEqProofs (disch := omega) only [↓reduceIte, go_sem, reduceToNat, reduceAdd, reduceLeDiff, reduceEqDiff, reduceSub, reduceMul, reduceCtorEq, encO]
   exact ⟨rfl, rfl⟩
def verP (v : Nat) (h h' : List Nat) : Nat := v + (h'.length - h.length)
/-- What makes a function: its own. -/
def mkO (nm : ByteArray) (rs ps bs : List (List AV)) (ids : Ids) (v1 v2 : Nat) (has : List Nat) : List Ob := [.box [.bool false, .str nm, .sl rs, .sl ps, .hs 1 v1 0 bs.length, .sl (ids.g.map encK), .sl (ids.x.map encK), .hs 2 v2 0 has.length], .arr v1 4 bs, .arr v2 1 (has.map encK)]
theorem giveH_in {ids has : List Nat} {k : Int} {v : Nat} (h : decide (pickP ids k ∈ has) = true) : giveH ids has k = has ∧ verP v has (giveH ids has k) = v := by
 have : giveH ids has k = has := by unfold giveH; rw [if_pos (by simpa using h)]
 exact ⟨this, by rw [this]; unfold verP; omega⟩
theorem giveH_out {ids has : List Nat} {k : Int} {v : Nat} (h : decide (pickP ids k ∈ has) = false) : giveH ids has k = has ++ [pickP ids k] ∧ verP v has (giveH ids has k) = v + 1 := by
 have : giveH ids has k = has ++ [pickP ids k] := by unfold giveH; rw [if_neg (by simpa using h)]
 exact ⟨this, by rw [this]; unfold verP; simp⟩
theorem C49 (nm : ByteArray) (rs ps bs : List (List AV)) (ids : Ids) (hi : ids.Ok) (v1 v2 : Nat) (has : List Nat) (hh : has.length < 100000) (c : Int) (hc : c = 0 ∨ c = 1) (k : Int) (hk : By k) :
  Ctr Tryz.prog 49 [.ref 0 0, .int .i64 c, .int .u8 k] (mkO nm rs ps bs ids v1 v2 has) (retO [.agg (encO (vregP (pickP (ids.of c) k)))] (mkO nm rs ps bs ids v1 (verP v2 has (giveH (ids.of c) has k)) (giveH (ids.of c) has k))) := by
 have hk1 := hk.1
 have hk2 := hk.2
 have key : ∀ (l : List Nat), 0 < l.length → l.length ≤ 6 → Int.tmod k (l.length : Int) = ((k.toNat % l.length : Nat) : Int) ∧ l[k.toNat % l.length]? = some (pickP l k) ∧ l[0]? = some (l.getD 0 0) := fun l h0 h1 => ⟨tmod_nat hk1, pickP_get h0, getDq h0⟩
 rcases hc with rfl | rfl
 ·have h0 := hi.g0
  have h1 := hi.g1
  have hm := (key ids.g h0 (by omega)).1
  have hg := (key ids.g h0 (by omega)).2.1
  have hg0 := (key ids.g h0 (by omega)).2.2
  have hin := mkIn has (pickP ids.g k) (by omega)
  have hv := C22 (pickP ids.g k : Int)
  have ho : (ids.of 0) = ids.g := rfl
  rw [ho]
  have e1 : decide (pickP ids.g k ∈ has) = true → giveH ids.g has k = has ∧ verP v2 has (giveH ids.g has k) = v2 := fun h => giveH_in h
  have e2 : decide (pickP ids.g k ∈ has) = false → giveH ids.g has k = has ++ [pickP ids.g k] ∧ verP v2 has (giveH ids.g has k) = v2 + 1 := fun h => giveH_out h
  simp only [encO] at hv
  have ht : List.take has.length (List.map encK has) = List.map encK has := List.take_of_length_le (by simp)
  apply ctr_b A49_ok rfl (Nat.le_of_ble_eq_true rfl)
  unfold A49
  simp only [initL, Nat.reduceAdd, mkO]
  simp -implicitDefEqProofs (disch := omega) only [↓reduceIte, go_sem, reduceToNat, reduceAdd, reduceLeDiff, reduceEqDiff, reduceSub, reduceMul, reduceCtorEq, hm, hg, encK]
  refine callL hin ?_
  simp -implicitDefEqProofs (disch := omega) only [↓reduceIte, go_sem, reduceToNat, reduceAdd, reduceLeDiff, reduceEqDiff, reduceSub, reduceMul, reduceCtorEq, hm, hg, encK]
  refine ifL (fun e => ?_) (fun e => ?_)
  ·have e4 := (e1 e).2
   have e3 := (e1 e).1
   rw [e4, e3]
   simp -implicitDefEqProofs (disch := omega) only [↓reduceIte, go_sem, reduceToNat, reduceAdd, reduceLeDiff, reduceEqDiff, reduceSub, reduceMul, reduceCtorEq, hg0, encK]
   refine callL hv ?_
   simp -implicitDefEqProofs (disch := omega) only [↓reduceIte, go_sem, reduceToNat, reduceAdd, reduceLeDiff, reduceEqDiff, reduceSub, reduceMul, reduceCtorEq, encO]
   exact ⟨rfl, rfl⟩
  ·have e4 := (e2 e).2
   have e3 := (e2 e).1
   rw [e4, e3]
   have hc1 : ((has.length + 1 : Nat) : Int) * ((8 : Nat) : Int) ≤ 70368744177664 := by omega
   simp -implicitDefEqProofs (disch := omega) only [↓reduceIte, go_sem, reduceToNat, reduceAdd, reduceLeDiff, reduceEqDiff, reduceSub, reduceMul, reduceCtorEq, hg0, encK, hc1]
   refine callL hv ?_
   simp -implicitDefEqProofs (disch := omega) only [↓reduceIte, go_sem, reduceToNat, reduceAdd, reduceLeDiff, reduceEqDiff, reduceSub, reduceMul, reduceCtorEq, encO]
   exact ⟨rfl, by simp [encK]⟩
 ·have h0 := hi.x0
  have h1 := hi.x1
  have hm := (key ids.x h0 (by omega)).1
  have hg := (key ids.x h0 (by omega)).2.1
  have hg0 := (key ids.x h0 (by omega)).2.2
  have hin := mkIn has (pickP ids.x k) (by omega)
  have hv := C22 (pickP ids.x k : Int)
  have ho : (ids.of 1) = ids.x := rfl
  rw [ho]
  have e1 : decide (pickP ids.x k ∈ has) = true → giveH ids.x has k = has ∧ verP v2 has (giveH ids.x has k) = v2 := fun h => giveH_in h
  have e2 : decide (pickP ids.x k ∈ has) = false → giveH ids.x has k = has ++ [pickP ids.x k] ∧ verP v2 has (giveH ids.x has k) = v2 + 1 := fun h => giveH_out h
  simp only [encO] at hv
  have ht : List.take has.length (List.map encK has) = List.map encK has := List.take_of_length_le (by simp)
  apply ctr_b A49_ok rfl (Nat.le_of_ble_eq_true rfl)
  unfold A49
  simp only [initL, Nat.reduceAdd, mkO]
  simp -implicitDefEqProofs (disch := omega) only [↓reduceIte, go_sem, reduceToNat, reduceAdd, reduceLeDiff, reduceEqDiff, reduceSub, reduceMul, reduceCtorEq, hm, hg, encK]
  refine callL hin ?_
  simp -implicitDefEqProofs (disch := omega) only [↓reduceIte, go_sem, reduceToNat, reduceAdd, reduceLeDiff, reduceEqDiff, reduceSub, reduceMul, reduceCtorEq, hm, hg, encK]
  refine ifL (fun e => ?_) (fun e => ?_)
  ·have e4 := (e1 e).2
   have e3 := (e1 e).1
   rw [e4, e3]
   simp -implicitDefEqProofs (disch := omega) only [↓reduceIte, go_sem, reduceToNat, reduceAdd, reduceLeDiff, reduceEqDiff, reduceSub, reduceMul, reduceCtorEq, hg0, encK]
   refine callL hv ?_
   simp -implicitDefEqProofs (disch := omega) only [↓reduceIte, go_sem, reduceToNat, reduceAdd, reduceLeDiff, reduceEqDiff, reduceSub, reduceMul, reduceCtorEq, encO]
   exact ⟨rfl, rfl⟩
  ·have e4 := (e2 e).2
   have e3 := (e2 e).1
   rw [e4, e3]
   have hc1 : ((has.length + 1 : Nat) : Int) * ((8 : Nat) : Int) ≤ 70368744177664 := by omega
   simp -implicitDefEqProofs (disch := omega) only [↓reduceIte, go_sem, reduceToNat, reduceAdd, reduceLeDiff, reduceEqDiff, reduceSub, reduceMul, reduceCtorEq, hg0, encK, hc1]
   refine callL hv ?_
   simp -implicitDefEqProofs (disch := omega) only [↓reduceIte, go_sem, reduceToNat, reduceAdd, reduceLeDiff, reduceEqDiff, reduceSub, reduceMul, reduceCtorEq, encO]
   exact ⟨rfl, by simp [encK]⟩
/- Making a function of a draft: labels, and one instruction. -/
theorem label_cat : ∀ i : Nat, i < 10 → i ≠ 0 → ByteArray.append ⟨#[98]⟩ (ByteArray.extract ⟨#[48, 49, 50, 51, 52, 53, 54, 55, 56, 57]⟩ i (i + 1)) = labelP i := by decide
theorem label_sz : ∀ i : Nat, i < 10 → (ByteArray.extract ⟨#[48, 49, 50, 51, 52, 53, 54, 55, 56, 57]⟩ i (i + 1)).size = 1 := by decide
theorem C26 (i : Nat) (h : i < 10) : Ctr Tryz.prog 26 [.int .i64 (i : Int)] [] (ret [.str (labelP i)]) := by
 apply ctr_b A26_ok rfl (Nat.le_of_ble_eq_true rfl)
 unfold A26
 simp only [initL, Nat.reduceAdd]
 simp -implicitDefEqProofs (disch := omega) only [↓reduceIte, go_sem, reduceToNat, reduceAdd, reduceLeDiff, reduceEqDiff, reduceSub, reduceMul, reduceCtorEq]
 refine ifE (fun e => ?_) (fun e => ?_)
 ·simp -implicitDefEqProofs (disch := omega) only [↓reduceIte, go_sem, reduceToNat, reduceAdd, reduceLeDiff, reduceEqDiff, reduceSub, reduceMul, reduceCtorEq]
  have : i = 0 := by omega
  subst this
  exact ⟨rfl, rfl⟩
 ·simp -implicitDefEqProofs (disch := omega) only [↓reduceIte, go_sem, reduceToNat, reduceAdd, reduceLeDiff, reduceEqDiff, reduceSub, reduceMul, reduceCtorEq]
  refine ckL ⟨by omega, show (i : Int) + 1 ≤ 10 by omega⟩ ?_
  have hl := label_cat i h (by omega)
  have t1 : ((i : Int) + 1).toNat = i + 1 := by omega
  simp -implicitDefEqProofs (disch := omega) only [↓reduceIte, go_sem, reduceToNat, reduceAdd, reduceLeDiff, reduceEqDiff, reduceSub, reduceMul, reduceCtorEq, t1]
  refine ckL ?_ ?_
  ·rw [label_sz i h]
   show 1 + 1 ≤ 9223372036854775807
   omega
  ·simp -implicitDefEqProofs (disch := omega) only [↓reduceIte, go_sem, reduceToNat, reduceAdd, reduceLeDiff, reduceEqDiff, reduceSub, reduceMul, reduceCtorEq, t1]
   refine ⟨?_, rfl⟩
   rw [← hl]
   rfl
theorem C50 (k : Int) (hk : By k) (n : Nat) (h2 : 2 ≤ n) (h : n ≤ 9) : Ctr Tryz.prog 50 [.int .u8 k, .int .i64 (n : Int)] [] (ret [.str (goalP k n)]) := by
 have hk1 := hk.1
 have hk2 := hk.2
 have hm := tmod_nat (m := n - 1) hk1
 have hmod := Nat.mod_lt k.toNat (show 0 < n - 1 by omega)
 have hl := C26 (1 + k.toNat % (n - 1)) (by omega)
 have e1 : ((n : Int) - 1) = ((n - 1 : Nat) : Int) := by omega
 have e2 : goalP k n = labelP (1 + k.toNat % (n - 1)) := rfl
 rw [e2]
 generalize k.toNat % (n - 1) = q at hm hmod hl
 apply ctr_b A50_ok rfl (Nat.le_of_ble_eq_true rfl)
 unfold A50
 simp only [initL, Nat.reduceAdd]
 simp -implicitDefEqProofs (disch := omega) only [↓reduceIte, go_sem, reduceToNat, reduceAdd, reduceLeDiff, reduceEqDiff, reduceSub, reduceMul, reduceCtorEq]
 have e3 : k.tmod ((n : Int) - 1) = (q : Int) := by rw [e1]; exact hm
 have e4 : ((1 + q : Nat) : Int) = 1 + (q : Int) := by omega
 rw [e4] at hl
 simp -implicitDefEqProofs (disch := omega) only [↓reduceIte, go_sem, reduceToNat, reduceAdd, reduceLeDiff, reduceEqDiff, reduceSub, reduceMul, reduceCtorEq, e3]
 refine callL hl ?_
 simp -implicitDefEqProofs (disch := omega) only [↓reduceIte, go_sem, reduceToNat, reduceAdd, reduceLeDiff, reduceEqDiff, reduceSub, reduceMul, reduceCtorEq]
 exact ⟨rfl, rfl⟩
/- Making a function of a draft: an instruction. -/
theorem wrapu8 (x : Int) : IntKind.u8.wrap x = x % 256 := by
 unfold IntKind.wrap
 simp [IntKind.signed, IntKind.bits]
theorem of0 (i : Ids) : i.of 0 = i.g := rfl
theorem of1 (i : Ids) : i.of 1 = i.x := rfl
theorem verP_self (v : Nat) (h : List Nat) : verP v h h = v := by unfold verP; omega
set_option maxHeartbeats 4000000 in
theorem C24 (nm : ByteArray) (rs ps bs : List (List AV)) (ids : Ids) (hi : ids.Ok) (v1 v2 : Nat) (has : List Nat) (hh : has.length < 90000) (d : DIn) (hd : d.Ok) :
  Ctr Tryz.prog 24 [.ref 0 0, .agg (encDI d)] (mkO nm rs ps bs ids v1 v2 has) (retO [.agg (encIn (instrP ids has d).2)] (mkO nm rs ps bs ids v1 (verP v2 has (instrP ids has d).1) (instrP ids has d).1)) := by
 obtain ⟨⟨o1, o2⟩, ⟨d1, d2⟩, ⟨a1, a2⟩, ⟨b1, b2⟩, n1, n2⟩ := hd
 have hop : 1 + Int.tmod d.op 19 = opOf d := by rw [opOf, Int.tmod_eq_emod_of_nonneg o1]
 have hlo : 0 ≤ Int.tmod d.op 19 ∧ Int.tmod d.op 19 < 19 := by rw [Int.tmod_eq_emod_of_nonneg o1]; omega
 have hb3 : Int.tmod d.b 3 = d.b % 3 := Int.tmod_eq_emod_of_nonneg b1
 have hd3 : Int.tmod d.d 3 = d.d % 3 := Int.tmod_eq_emod_of_nonneg d1
 have hd2 : Int.tmod d.d 2 = d.d % 2 := Int.tmod_eq_emod_of_nonneg d1
 have ha3 : Int.tmod d.a 3 = d.a % 3 := Int.tmod_eq_emod_of_nonneg a1
 have hb4 : Int.tmod d.b 4 = d.b % 4 := Int.tmod_eq_emod_of_nonneg b1
 have hq2 : Int.tdiv d.d 2 = d.d / 2 := Int.tdiv_eq_ediv_of_nonneg d1
 have hus := fun (h : List Nat) (hl : h.length < 1000000) (c : Int) (hc : c = 0 ∨ c = 1) (k : Int) (hk : By k) => C48 nm rs ps bs ids hi h hl c hc k hk
 have hgv := fun (c : Int) (hc : c = 0 ∨ c = 1) (k : Int) (hk : By k) => C49 nm rs ps bs ids hi v1 v2 has (by omega) c hc k hk
 have him := C23 d.n
 simp only [mkR, mkO, encO, vregP, immP] at hus hgv him
 have htb : List.take bs.length bs = bs := List.take_of_length_le (by simp)
 have hth : List.take has.length (List.map encK has) = List.map encK has := List.take_of_length_le (by simp)
 unfold instrP
 generalize hoe : opOf d = op at hop ⊢
 apply ctr_b A24_ok rfl (Nat.le_of_ble_eq_true rfl)
 unfold A24
 simp only [initL, Nat.reduceAdd, mkO, encDI]
 simp -implicitDefEqProofs (disch := omega) only [↓reduceIte, go_sem, reduceToNat, reduceAdd, reduceLeDiff, reduceEqDiff, reduceSub, reduceMul, reduceCtorEq, hop]
 refine ifE (fun e => ?_) (fun e => ?_)
 ·have hgv := hgv (d.d % 2) (by omega) (d.d / 2) ⟨by omega, by omega⟩
  rw [if_pos e]
  simp only
  simp -implicitDefEqProofs (disch := omega) only [↓reduceIte, go_sem, reduceToNat, reduceAdd, reduceLeDiff, reduceEqDiff, reduceSub, reduceMul, reduceCtorEq]
  refine callL him ?_
  simp -implicitDefEqProofs (disch := omega) only [↓reduceIte, go_sem, reduceToNat, reduceAdd, reduceLeDiff, reduceEqDiff, reduceSub, reduceMul, reduceCtorEq, hb3]
  refine ifD (fun c => ?_) (fun c => ?_)
  ·have hu := hus has (by omega) (d.b % 3 - 1) (by omega) d.a ⟨a1, a2⟩
   rw [if_pos (show 0 < d.b % 3 by omega)]
   simp -implicitDefEqProofs (disch := omega) only [↓reduceIte, go_sem, reduceToNat, reduceAdd, reduceLeDiff, reduceEqDiff, reduceSub, reduceMul, reduceCtorEq, hb3, htb, hth]
   refine callL hu ?_
   simp -implicitDefEqProofs (disch := omega) only [↓reduceIte, go_sem, reduceToNat, reduceAdd, reduceLeDiff, reduceEqDiff, reduceSub, reduceMul, reduceCtorEq, hb3, htb, hth, hd2, hq2]
   refine accL (by kernel_rfl) ?_
   simp -implicitDefEqProofs (disch := omega) only [↓reduceIte, go_sem, reduceToNat, reduceAdd, reduceLeDiff, reduceEqDiff, reduceSub, reduceMul, reduceCtorEq, hb3, htb, hth, hd2, hq2]
   refine callD hgv ?_
   simp -implicitDefEqProofs (disch := omega) only [↓reduceIte, go_sem, reduceToNat, reduceAdd, reduceLeDiff, reduceEqDiff, reduceSub, reduceMul, reduceCtorEq]
   exact ⟨by simp [encIn, encO, vregP, immP, noOpd, of0, of1], rfl⟩
  ·rw [if_neg (show ¬ 0 < d.b % 3 by omega)]
   simp -implicitDefEqProofs (disch := omega) only [↓reduceIte, go_sem, reduceToNat, reduceAdd, reduceLeDiff, reduceEqDiff, reduceSub, reduceMul, reduceCtorEq, hb3, htb, hth, hd2, hq2]
   refine callD hgv ?_
   simp -implicitDefEqProofs (disch := omega) only [↓reduceIte, go_sem, reduceToNat, reduceAdd, reduceLeDiff, reduceEqDiff, reduceSub, reduceMul, reduceCtorEq]
   exact ⟨by simp [encIn, encO, vregP, immP, noOpd, of0, of1], rfl⟩
 ·rw [if_neg e]
  simp -implicitDefEqProofs (disch := omega) only [↓reduceIte, go_sem, reduceToNat, reduceAdd, reduceLeDiff, reduceEqDiff, reduceSub, reduceMul, reduceCtorEq]
  refine ifE (fun e2 => ?_) (fun e2 => ?_)
  ·have hgv := hgv 0 (.inl rfl) d.d ⟨d1, d2⟩
   have hu := hus has (by omega) 1 (.inr rfl) d.a ⟨a1, a2⟩
   rw [if_pos e2]
   simp -implicitDefEqProofs (disch := omega) only [↓reduceIte, go_sem, reduceToNat, reduceAdd, reduceLeDiff, reduceEqDiff, reduceSub, reduceMul, reduceCtorEq, htb, hth]
   refine callL hu ?_
   simp -implicitDefEqProofs (disch := omega) only [↓reduceIte, go_sem, reduceToNat, reduceAdd, reduceLeDiff, reduceEqDiff, reduceSub, reduceMul, reduceCtorEq, htb, hth]
   refine callD hgv ?_
   simp -implicitDefEqProofs (disch := omega) only [↓reduceIte, go_sem, reduceToNat, reduceAdd, reduceLeDiff, reduceEqDiff, reduceSub, reduceMul, reduceCtorEq]
   exact ⟨by simp [encIn, encO, vregP, immP, noOpd, of0, of1], rfl⟩
  ·rw [if_neg e2]
   simp -implicitDefEqProofs (disch := omega) only [↓reduceIte, go_sem, reduceToNat, reduceAdd, reduceLeDiff, reduceEqDiff, reduceSub, reduceMul, reduceCtorEq]
   refine ifE (fun e3 => ?_) (fun e3 => ?_)
   ·have hu := hus has (by omega) 0 (.inl rfl) d.b ⟨b1, b2⟩
    have hu2 := hus has (by omega) 1 (.inr rfl) d.a ⟨a1, a2⟩
    rw [if_pos e3]
    simp -implicitDefEqProofs (disch := omega) only [↓reduceIte, go_sem, reduceToNat, reduceAdd, reduceLeDiff, reduceEqDiff, reduceSub, reduceMul, reduceCtorEq, htb, hth]
    refine callL hu ?_
    simp -implicitDefEqProofs (disch := omega) only [↓reduceIte, go_sem, reduceToNat, reduceAdd, reduceLeDiff, reduceEqDiff, reduceSub, reduceMul, reduceCtorEq, htb, hth]
    refine callL hu2 ?_
    simp -implicitDefEqProofs (disch := omega) only [↓reduceIte, go_sem, reduceToNat, reduceAdd, reduceLeDiff, reduceEqDiff, reduceSub, reduceMul, reduceCtorEq, htb, hth]
    refine accL (by kernel_rfl) ?_
    simp -implicitDefEqProofs (disch := omega) only [↓reduceIte, go_sem, reduceToNat, reduceAdd, reduceLeDiff, reduceEqDiff, reduceSub, reduceMul, reduceCtorEq, htb, hth]
    simp only [verP_self]
    exact ⟨by simp [encIn, encO, vregP, immP, noOpd, of0, of1], rfl⟩
   ·rw [if_neg e3]
    simp -implicitDefEqProofs (disch := omega) only [↓reduceIte, go_sem, reduceToNat, reduceAdd, reduceLeDiff, reduceEqDiff, reduceSub, reduceMul, reduceCtorEq]
    refine ifE (fun e4 => ?_) (fun e4 => ?_)
    ·rw [if_pos e4]
     have hnm : ([[.str ⟨#[102]⟩], [.str ⟨#[103]⟩], [.str ⟨#[112, 117, 116, 10]⟩]] : List (List AV))[(d.a % 3).toNat]? = some [.str (callName d.a)] := by
      unfold callName
      have h3 : d.a % 3 = 0 ∨ d.a % 3 = 1 ∨ d.a % 3 = 2 := by omega
      rcases h3 with h3 | h3 | h3 <;> rw [h3] <;> rfl
     have hgv := hgv 0 (.inl rfl) d.d ⟨d1, d2⟩
     have hu := fun k (hk : By k) => hus has (by omega) 0 (.inl rfl) k hk
     simp -implicitDefEqProofs (disch := omega) only [↓reduceIte, go_sem, reduceToNat, reduceAdd, reduceLeDiff, reduceEqDiff, reduceSub, reduceMul, reduceCtorEq, ha3, hnm]
     refine loopL (σ := Nat) (fun s => ⟨[(0, .ref 0 0), (3, .rp [.int .u8 d.op, .int .u8 d.d, .int .u8 d.a, .int .u8 d.b, .int .i16 d.n]), (4, .ref 4 0), (6, .ref 6 0), (7, .int .i64 (s : Int))],
      [(0, .box [.bool false, .str nm, .sl rs, .sl ps, .hs 1 v1 0 bs.length, .sl (ids.g.map encK), .sl (ids.x.map encK), .hs 2 v2 0 has.length]), (1, .arr v1 4 bs), (2, .arr v2 1 (has.map encK)), (4, .pbox [.int .i64 0, .int .i64 0, .int .i64 0, .int .i64 0, .int .i64 0, .sl [], .str ByteArray.empty, .int .i64 0, .sl [], .sl []]), (6, .box [.int .i64 op, .int .i64 0, .int .i64 0, .int .i64 0, .int .i64 0, .hs 1006 s 0 s, .str (callName d.a), .int .i64 0, .sl [], .sl []]), (1006, .arr s 4 ((List.range s).map fun i => encO (callArg ids.g has d i)))]⟩)
      (fun s => s ≤ (d.b % 4).toNat) (fun s => (d.b % 4).toNat - s) 0 (by simp -implicitDefEqProofs (disch := omega) only [↓reduceIte, go_sem, reduceToNat, reduceAdd, reduceLeDiff, reduceEqDiff, reduceSub, reduceMul, reduceCtorEq]; rfl) (Nat.zero_le _) ?_
     intro s hs
     have hrl : ((List.range s).map fun i => encO (callArg ids.g has d i)).length = s := by simp
     have hnx : ((List.range (s + 1)).map fun i => encO (callArg ids.g has d i)) = ((List.range s).map fun i => encO (callArg ids.g has d i)) ++ [encO (callArg ids.g has d s)] := by rw [List.range_succ, List.map_append]; rfl
     generalize hL : ((List.range s).map fun i => encO (callArg ids.g has d i)) = L at hrl hnx ⊢
     simp -implicitDefEqProofs (disch := omega) only [↓reduceIte, go_sem, reduceToNat, reduceAdd, reduceLeDiff, reduceEqDiff, reduceSub, reduceMul, reduceCtorEq, hb4]
     refine ifD (fun c => ?_) (fun c => ?_)
     ·simp -implicitDefEqProofs (disch := omega) only [↓reduceIte, go_sem, reduceToNat, reduceAdd, reduceLeDiff, reduceEqDiff, reduceSub, reduceMul, reduceCtorEq]
      refine ifE (fun e5 => ?_) (fun e5 => ?_)
      ·simp -implicitDefEqProofs (disch := omega) only [↓reduceIte, go_sem, reduceToNat, reduceAdd, reduceLeDiff, reduceEqDiff, reduceSub, reduceMul, reduceCtorEq]
       refine callL him ?_
       simp -implicitDefEqProofs (disch := omega) only [↓reduceIte, go_sem, reduceToNat, reduceAdd, reduceLeDiff, reduceEqDiff, reduceSub, reduceMul, reduceCtorEq, hrl]
       refine accL (by kernel_rfl) ?_
       simp -implicitDefEqProofs (disch := omega) only [↓reduceIte, go_sem, reduceToNat, reduceAdd, reduceLeDiff, reduceEqDiff, reduceSub, reduceMul, reduceCtorEq, hrl]
       have hca : callArg ids.g has d s = immP d.n := by unfold callArg; rw [if_pos e5]
       rw [hca] at hnx
       exact ⟨s + 1, by rw [hnx]; simp [encO, immP], by omega, by omega⟩
      ·have hu2 := hu ((d.a + (s : Int) * d.b) % 256) ⟨by omega, by omega⟩
       have e6 : IntKind.u8.wrap (d.a + IntKind.u8.wrap ((s : Int) * d.b)) = (d.a + (s : Int) * d.b) % 256 := by
        rw [wrapu8, wrapu8]
        omega
       simp -implicitDefEqProofs (disch := omega) only [↓reduceIte, go_sem, reduceToNat, reduceAdd, reduceLeDiff, reduceEqDiff, reduceSub, reduceMul, reduceCtorEq, htb, hth, e6]
       refine callL hu2 ?_
       simp -implicitDefEqProofs (disch := omega) only [↓reduceIte, go_sem, reduceToNat, reduceAdd, reduceLeDiff, reduceEqDiff, reduceSub, reduceMul, reduceCtorEq, htb, hth, hrl]
       refine accL (by kernel_rfl) ?_
       simp -implicitDefEqProofs (disch := omega) only [↓reduceIte, go_sem, reduceToNat, reduceAdd, reduceLeDiff, reduceEqDiff, reduceSub, reduceMul, reduceCtorEq, htb, hth, hrl]
       have hca : callArg ids.g has d s = vregP (useV ids.g has ((d.a + (s : Int) * d.b) % 256)) := by unfold callArg; rw [if_neg e5]
       rw [hca] at hnx
       exact ⟨s + 1, by rw [hnx]; simp [encO, vregP, of0], by omega, by omega⟩
     ·have hse : s = (d.b % 4).toNat := by omega
      subst hse
      have hL2 : ((List.range (d.b % 4).toNat).map (callArg ids.g has d)).map encO = L := by rw [← hL, List.map_map]; rfl
      simp -implicitDefEqProofs (disch := omega) only [↓reduceIte, go_sem, reduceToNat, reduceAdd, reduceLeDiff, reduceEqDiff, reduceSub, reduceMul, reduceCtorEq, hd3]
      refine ifD (fun c2 => ?_) (fun c2 => ?_)
      ·rw [if_pos (show 0 < d.d % 3 by omega), if_pos (show 0 < d.d % 3 by omega)]
       simp -implicitDefEqProofs (disch := omega) only [↓reduceIte, go_sem, reduceToNat, reduceAdd, reduceLeDiff, reduceEqDiff, reduceSub, reduceMul, reduceCtorEq, htb, hth]
       refine callD hgv ?_
       simp -implicitDefEqProofs (disch := omega) only [↓reduceIte, go_sem, reduceToNat, reduceAdd, reduceLeDiff, reduceEqDiff, reduceSub, reduceMul, reduceCtorEq, hrl]
       refine ⟨?_, rfl⟩
       simp only [encIn, hL2]
       simp [encO, vregP, of0, ← hrl]
      ·rw [if_neg (show ¬ 0 < d.d % 3 by omega), if_neg (show ¬ 0 < d.d % 3 by omega)]
       simp only [verP_self]
       simp -implicitDefEqProofs (disch := omega) only [↓reduceIte, go_sem, reduceToNat, reduceAdd, reduceLeDiff, reduceEqDiff, reduceSub, reduceMul, reduceCtorEq, htb, hth]
       refine ⟨?_, rfl⟩
       simp only [encIn, hL2]
       simp [encO, noOpd, ← hrl]
    ·have hgv := hgv 0 (.inl rfl) d.d ⟨d1, d2⟩
     have hu := hus has (by omega) 0 (.inl rfl) d.a ⟨a1, a2⟩
     have hu2 := hus has (by omega) 0 (.inl rfl) d.b ⟨b1, b2⟩
     rw [if_neg e4]
     simp -implicitDefEqProofs (disch := omega) only [↓reduceIte, go_sem, reduceToNat, reduceAdd, reduceLeDiff, reduceEqDiff, reduceSub, reduceMul, reduceCtorEq, htb, hth]
     refine callL hu ?_
     simp -implicitDefEqProofs (disch := omega) only [↓reduceIte, go_sem, reduceToNat, reduceAdd, reduceLeDiff, reduceEqDiff, reduceSub, reduceMul, reduceCtorEq, htb, hth]
     refine callL him ?_
     simp -implicitDefEqProofs (disch := omega) only [↓reduceIte, go_sem, reduceToNat, reduceAdd, reduceLeDiff, reduceEqDiff, reduceSub, reduceMul, reduceCtorEq, htb, hth]
     refine accL (by kernel_rfl) ?_
     simp -implicitDefEqProofs (disch := omega) only [↓reduceIte, go_sem, reduceToNat, reduceAdd, reduceLeDiff, reduceEqDiff, reduceSub, reduceMul, reduceCtorEq, htb, hth, hb3]
     refine ifD (fun c => ?_) (fun c => ?_)
     ·rw [if_pos (show 0 < d.b % 3 by omega)]
      simp -implicitDefEqProofs (disch := omega) only [↓reduceIte, go_sem, reduceToNat, reduceAdd, reduceLeDiff, reduceEqDiff, reduceSub, reduceMul, reduceCtorEq, htb, hth]
      refine callL hu2 ?_
      simp -implicitDefEqProofs (disch := omega) only [↓reduceIte, go_sem, reduceToNat, reduceAdd, reduceLeDiff, reduceEqDiff, reduceSub, reduceMul, reduceCtorEq, htb, hth]
      refine accL (by kernel_rfl) ?_
      simp -implicitDefEqProofs (disch := omega) only [↓reduceIte, go_sem, reduceToNat, reduceAdd, reduceLeDiff, reduceEqDiff, reduceSub, reduceMul, reduceCtorEq, htb, hth]
      refine callD hgv ?_
      simp -implicitDefEqProofs (disch := omega) only [↓reduceIte, go_sem, reduceToNat, reduceAdd, reduceLeDiff, reduceEqDiff, reduceSub, reduceMul, reduceCtorEq]
      exact ⟨by simp [encIn, encO, vregP, immP, noOpd, of0, of1], rfl⟩
     ·rw [if_neg (show ¬ 0 < d.b % 3 by omega)]
      simp -implicitDefEqProofs (disch := omega) only [↓reduceIte, go_sem, reduceToNat, reduceAdd, reduceLeDiff, reduceEqDiff, reduceSub, reduceMul, reduceCtorEq, htb, hth]
      refine callD hgv ?_
      simp -implicitDefEqProofs (disch := omega) only [↓reduceIte, go_sem, reduceToNat, reduceAdd, reduceLeDiff, reduceEqDiff, reduceSub, reduceMul, reduceCtorEq]
      exact ⟨by simp [encIn, encO, vregP, immP, noOpd, of0, of1], rfl⟩
/- Making a function of a draft: how a block ends. -/
set_option maxHeartbeats 4000000 in
theorem C25 (nm : ByteArray) (rs ps bs : List (List AV)) (ids : Ids) (hi : ids.Ok) (v1 v2 : Nat) (has : List Nat) (hh : has.length < 90000) (d : DBk) (hd : d.Ok) (i n : Nat) (hin : i < n) (hn : n ≤ 9) :
  Ctr Tryz.prog 25 [.ref 0 0, .agg (encDB d), .int .i64 (i : Int), .int .i64 (n : Int)] (mkO nm rs ps bs ids v1 v2 has) (retO [.agg (encIn (lastP2 ids has d i n))] (mkO nm rs ps bs ids v1 v2 has)) := by
 obtain ⟨hcd, ⟨t1, t2⟩, ⟨a1, a2⟩, ⟨b1, b2⟩, w1, w2⟩ := hd
 have ht3 : Int.tmod d.term 3 = d.term % 3 := Int.tmod_eq_emod_of_nonneg t1
 have ht4 : Int.tmod d.term 4 = d.term % 4 := Int.tmod_eq_emod_of_nonneg t1
 have ht8 : Int.tmod d.term 8 = d.term % 8 := Int.tmod_eq_emod_of_nonneg t1
 have hv7 : Int.tmod d.v 7 = d.v % 7 := Int.tmod_eq_emod_of_nonneg w1
 have hv2 : Int.tmod d.v 2 = d.v % 2 := Int.tmod_eq_emod_of_nonneg w1
 have ha3 : Int.tmod d.a 3 = d.a % 3 := Int.tmod_eq_emod_of_nonneg a1
 have hu := C48 nm rs ps bs ids hi has (by omega) 0 (.inl rfl) d.v ⟨w1, w2⟩
 have him := C23 d.v
 have hga := fun (h2 : 2 ≤ n) => C50 d.a ⟨a1, a2⟩ n h2 hn
 have hgb := fun (h2 : 2 ≤ n) => C50 d.b ⟨b1, b2⟩ n h2 hn
 have hlb := fun (h2 : i + 1 < n) => C26 (i + 1) (by omega)
 have e0 : ((i + 1 : Nat) : Int) = (i : Int) + 1 := by omega
 rw [e0] at hlb
 simp only [mkR, encO, vregP, immP] at hu him
 have htb : List.take bs.length bs = bs := List.take_of_length_le (by simp)
 have hth : List.take has.length (List.map encK has) = List.map encK has := List.take_of_length_le (by simp)
 generalize hr : lastP2 ids has d i n = r
 rw [show useV (ids.of 0) has d.v = useV ids.g has d.v from rfl] at hu
 apply ctr_b A25_ok rfl (Nat.le_of_ble_eq_true rfl)
 unfold A25
 simp only [initL, Nat.reduceAdd, mkO, encDB]
 simp -implicitDefEqProofs (disch := omega) only [↓reduceIte, go_sem, reduceToNat, reduceAdd, reduceLeDiff, reduceEqDiff, reduceSub, reduceMul, reduceCtorEq, htb, hth]
 refine callL hu ?_
 simp -implicitDefEqProofs (disch := omega) only [↓reduceIte, go_sem, reduceToNat, reduceAdd, reduceLeDiff, reduceEqDiff, reduceSub, reduceMul, reduceCtorEq, htb, hth]
 refine joinL (σ := Unit) (fun _ => ⟨[(2, .int .i64 (i : Int)), (3, .int .i64 (n : Int)), (5, .rp [.sl (d.code.map encDI), .int .u8 d.term, .int .u8 d.a, .int .u8 d.b, .int .u8 d.v]), (8, .ref 8 0), (9, .ref 9 0)], [(0, .box [.bool false, .str nm, .sl rs, .sl ps, .hs 1 v1 0 bs.length, .sl (ids.g.map encK), .sl (ids.x.map encK), .hs 2 v2 0 has.length]), (1, .arr v1 4 bs), (2, .arr v2 1 (has.map encK)), (8, .pbox [.int .i64 0, .int .i64 0, .int .i64 0, .int .i64 0, .int .i64 0, .sl [], .str .empty, .int .i64 0, .sl [], .sl []]), (9, .pbox [.int .i64 1, .int .i64 0, .int .i64 (useV ids.g has d.v : Int), .int .i64 0])]⟩) (fun _ => ¬ (n = 1 ∨ (i + 1 = n ∧ d.term % 3 = 0))) ?_ ?_
 ·simp -implicitDefEqProofs (disch := omega) only [↓reduceIte, go_sem, reduceToNat, reduceAdd, reduceLeDiff, reduceEqDiff, reduceSub, reduceMul, reduceCtorEq]
  refine ifE (fun z1 => ?_) (fun z1 => ?_)
  ·have hc : n = 1 ∨ (i + 1 = n ∧ d.term % 3 = 0) := .inl (by omega)
   simp -implicitDefEqProofs (disch := omega) only [↓reduceIte, go_sem, reduceToNat, reduceAdd, reduceLeDiff, reduceEqDiff, reduceSub, reduceMul, reduceCtorEq, hv7]
   refine ifE (fun q => ?_) (fun q => ?_)
   ·simp -implicitDefEqProofs (disch := omega) only [↓reduceIte, go_sem, reduceToNat, reduceAdd, reduceLeDiff, reduceEqDiff, reduceSub, reduceMul, reduceCtorEq]
    refine callL him ?_
    simp -implicitDefEqProofs (disch := omega) only [↓reduceIte, go_sem, reduceToNat, reduceAdd, reduceLeDiff, reduceEqDiff, reduceSub, reduceMul, reduceCtorEq, htb, hth]
    exact ⟨by rw [← hr]; unfold lastP2 lastV; dsimp only; rw [if_pos hc, if_pos q]; simp [encIn, encO, vregP, immP, noOpd, encSt, encCs, of0], rfl⟩
   ·simp -implicitDefEqProofs (disch := omega) only [↓reduceIte, go_sem, reduceToNat, reduceAdd, reduceLeDiff, reduceEqDiff, reduceSub, reduceMul, reduceCtorEq, htb, hth]
    exact ⟨by rw [← hr]; unfold lastP2 lastV; dsimp only; rw [if_pos hc, if_neg q]; simp [encIn, encO, vregP, immP, noOpd, encSt, encCs, of0], rfl⟩
  ·simp -implicitDefEqProofs (disch := omega) only [↓reduceIte, go_sem, reduceToNat, reduceAdd, reduceLeDiff, reduceEqDiff, reduceSub, reduceMul, reduceCtorEq]
   refine ifE (fun z2 => ?_) (fun z2 => ?_)
   ·simp -implicitDefEqProofs (disch := omega) only [↓reduceIte, go_sem, reduceToNat, reduceAdd, reduceLeDiff, reduceEqDiff, reduceSub, reduceMul, reduceCtorEq, ht3]
    refine ifE (fun z3 => ?_) (fun z3 => ?_)
    ·have hc : n = 1 ∨ (i + 1 = n ∧ d.term % 3 = 0) := .inr ⟨by omega, z3⟩
     simp -implicitDefEqProofs (disch := omega) only [↓reduceIte, go_sem, reduceToNat, reduceAdd, reduceLeDiff, reduceEqDiff, reduceSub, reduceMul, reduceCtorEq, hv7]
     refine ifE (fun q => ?_) (fun q => ?_)
     ·simp -implicitDefEqProofs (disch := omega) only [↓reduceIte, go_sem, reduceToNat, reduceAdd, reduceLeDiff, reduceEqDiff, reduceSub, reduceMul, reduceCtorEq]
      refine callL him ?_
      simp -implicitDefEqProofs (disch := omega) only [↓reduceIte, go_sem, reduceToNat, reduceAdd, reduceLeDiff, reduceEqDiff, reduceSub, reduceMul, reduceCtorEq, htb, hth]
      exact ⟨by rw [← hr]; unfold lastP2 lastV; dsimp only; rw [if_pos hc, if_pos q]; simp [encIn, encO, vregP, immP, noOpd, encSt, encCs, of0], rfl⟩
     ·simp -implicitDefEqProofs (disch := omega) only [↓reduceIte, go_sem, reduceToNat, reduceAdd, reduceLeDiff, reduceEqDiff, reduceSub, reduceMul, reduceCtorEq, htb, hth]
      exact ⟨by rw [← hr]; unfold lastP2 lastV; dsimp only; rw [if_pos hc, if_neg q]; simp [encIn, encO, vregP, immP, noOpd, encSt, encCs, of0], rfl⟩
    ·have hc : ¬ (n = 1 ∨ (i + 1 = n ∧ d.term % 3 = 0)) := fun h => h.elim (fun h => by omega) (fun h => z3 h.2)
     simp -implicitDefEqProofs (disch := omega) only [↓reduceIte, go_sem, reduceToNat, reduceAdd, reduceLeDiff, reduceEqDiff, reduceSub, reduceMul, reduceCtorEq]
     exact ⟨(), hc⟩
   ·have hc : ¬ (n = 1 ∨ (i + 1 = n ∧ d.term % 3 = 0)) := fun h => h.elim (fun h => by omega) (fun h => z2 (by omega))
    simp -implicitDefEqProofs (disch := omega) only [↓reduceIte, go_sem, reduceToNat, reduceAdd, reduceLeDiff, reduceEqDiff, reduceSub, reduceMul, reduceCtorEq]
    exact ⟨(), hc⟩
 ·intro _ hc
  have h2 : 2 ≤ n := by omega
  simp -implicitDefEqProofs (disch := omega) only [↓reduceIte, go_sem, reduceToNat, reduceAdd, reduceLeDiff, reduceEqDiff, reduceSub, reduceMul, reduceCtorEq]
  refine callL (hga h2) ?_
  simp -implicitDefEqProofs (disch := omega) only [↓reduceIte, go_sem, reduceToNat, reduceAdd, reduceLeDiff, reduceEqDiff, reduceSub, reduceMul, reduceCtorEq]
  refine joinL (σ := ByteArray) (fun nx => ⟨[(3, .int .i64 (n : Int)), (5, .rp [.sl (d.code.map encDI), .int .u8 d.term, .int .u8 d.a, .int .u8 d.b, .int .u8 d.v]), (8, .ref 8 0), (9, .ref 9 0), (10, .str nx)], [(0, .box [.bool false, .str nm, .sl rs, .sl ps, .hs 1 v1 0 bs.length, .sl (ids.g.map encK), .sl (ids.x.map encK), .hs 2 v2 0 has.length]), (1, .arr v1 4 bs), (2, .arr v2 1 (has.map encK)), (8, .pbox [.int .i64 0, .int .i64 0, .int .i64 0, .int .i64 0, .int .i64 0, .sl [], .str .empty, .int .i64 0, .sl [], .sl []]), (9, .pbox [.int .i64 1, .int .i64 0, .int .i64 (useV ids.g has d.v : Int), .int .i64 0])]⟩) (fun nx => (if i + 1 < n then labelP (i + 1) else goalP d.a n) = nx) ?_ ?_
  ·simp -implicitDefEqProofs (disch := omega) only [↓reduceIte, go_sem, reduceToNat, reduceAdd, reduceLeDiff, reduceEqDiff, reduceSub, reduceMul, reduceCtorEq]
   refine ifD (fun q6 => ?_) (fun q6 => ?_)
   ·simp -implicitDefEqProofs (disch := omega) only [↓reduceIte, go_sem, reduceToNat, reduceAdd, reduceLeDiff, reduceEqDiff, reduceSub, reduceMul, reduceCtorEq]
    refine callL (hlb (by omega)) ?_
    simp -implicitDefEqProofs (disch := omega) only [↓reduceIte, go_sem, reduceToNat, reduceAdd, reduceLeDiff, reduceEqDiff, reduceSub, reduceMul, reduceCtorEq]
    exact ⟨_, by simp, if_pos (by omega)⟩
   ·simp -implicitDefEqProofs (disch := omega) only [↓reduceIte, go_sem, reduceToNat, reduceAdd, reduceLeDiff, reduceEqDiff, reduceSub, reduceMul, reduceCtorEq]
    exact ⟨_, by simp, if_neg (by omega)⟩
  ·intro nx hnx
   simp -implicitDefEqProofs (disch := omega) only [↓reduceIte, go_sem, reduceToNat, reduceAdd, reduceLeDiff, reduceEqDiff, reduceSub, reduceMul, reduceCtorEq, ht4]
   refine ifE (fun q0 => ?_) (fun q0 => ?_)
   ·simp -implicitDefEqProofs (disch := omega) only [↓reduceIte, go_sem, reduceToNat, reduceAdd, reduceLeDiff, reduceEqDiff, reduceSub, reduceMul, reduceCtorEq, ht8]
    refine ifD (fun q5 => ?_) (fun q5 => ?_)
    ·simp -implicitDefEqProofs (disch := omega) only [↓reduceIte, go_sem, reduceToNat, reduceAdd, reduceLeDiff, reduceEqDiff, reduceSub, reduceMul, reduceCtorEq]
     refine callL (hgb h2) ?_
     simp -implicitDefEqProofs (disch := omega) only [↓reduceIte, go_sem, reduceToNat, reduceAdd, reduceLeDiff, reduceEqDiff, reduceSub, reduceMul, reduceCtorEq]
     refine accL (by kernel_rfl) ?_
     simp -implicitDefEqProofs (disch := omega) only [↓reduceIte, go_sem, reduceToNat, reduceAdd, reduceLeDiff, reduceEqDiff, reduceSub, reduceMul, reduceCtorEq]
     exact ⟨by rw [← hr]; unfold lastP2 lastV; dsimp only; rw [if_neg hc, hnx, if_pos (show d.term % 4 = 0 ∨ d.term % 4 = 1 from .inl q0), if_pos q5]; simp [encIn, encO, vregP, immP, noOpd, encSt, encCs, of0], rfl⟩
    ·simp -implicitDefEqProofs (disch := omega) only [↓reduceIte, go_sem, reduceToNat, reduceAdd, reduceLeDiff, reduceEqDiff, reduceSub, reduceMul, reduceCtorEq]
     refine callL (hgb h2) ?_
     simp -implicitDefEqProofs (disch := omega) only [↓reduceIte, go_sem, reduceToNat, reduceAdd, reduceLeDiff, reduceEqDiff, reduceSub, reduceMul, reduceCtorEq]
     refine accL (by kernel_rfl) ?_
     simp -implicitDefEqProofs (disch := omega) only [↓reduceIte, go_sem, reduceToNat, reduceAdd, reduceLeDiff, reduceEqDiff, reduceSub, reduceMul, reduceCtorEq]
     exact ⟨by rw [← hr]; unfold lastP2 lastV; dsimp only; rw [if_neg hc, hnx, if_pos (show d.term % 4 = 0 ∨ d.term % 4 = 1 from .inl q0), if_neg q5]; simp [encIn, encO, vregP, immP, noOpd, encSt, encCs, of0], rfl⟩
   ·simp -implicitDefEqProofs (disch := omega) only [↓reduceIte, go_sem, reduceToNat, reduceAdd, reduceLeDiff, reduceEqDiff, reduceSub, reduceMul, reduceCtorEq, ht4]
    refine ifE (fun q1 => ?_) (fun q1 => ?_)
    ·simp -implicitDefEqProofs (disch := omega) only [↓reduceIte, go_sem, reduceToNat, reduceAdd, reduceLeDiff, reduceEqDiff, reduceSub, reduceMul, reduceCtorEq, ht8]
     refine ifD (fun q5 => ?_) (fun q5 => ?_)
     ·simp -implicitDefEqProofs (disch := omega) only [↓reduceIte, go_sem, reduceToNat, reduceAdd, reduceLeDiff, reduceEqDiff, reduceSub, reduceMul, reduceCtorEq]
      refine callL (hgb h2) ?_
      simp -implicitDefEqProofs (disch := omega) only [↓reduceIte, go_sem, reduceToNat, reduceAdd, reduceLeDiff, reduceEqDiff, reduceSub, reduceMul, reduceCtorEq]
      refine accL (by kernel_rfl) ?_
      simp -implicitDefEqProofs (disch := omega) only [↓reduceIte, go_sem, reduceToNat, reduceAdd, reduceLeDiff, reduceEqDiff, reduceSub, reduceMul, reduceCtorEq]
      exact ⟨by rw [← hr]; unfold lastP2 lastV; dsimp only; rw [if_neg hc, hnx, if_pos (show d.term % 4 = 0 ∨ d.term % 4 = 1 from .inr q1), if_pos q5]; simp [encIn, encO, vregP, immP, noOpd, encSt, encCs, of0], rfl⟩
     ·simp -implicitDefEqProofs (disch := omega) only [↓reduceIte, go_sem, reduceToNat, reduceAdd, reduceLeDiff, reduceEqDiff, reduceSub, reduceMul, reduceCtorEq]
      refine callL (hgb h2) ?_
      simp -implicitDefEqProofs (disch := omega) only [↓reduceIte, go_sem, reduceToNat, reduceAdd, reduceLeDiff, reduceEqDiff, reduceSub, reduceMul, reduceCtorEq]
      refine accL (by kernel_rfl) ?_
      simp -implicitDefEqProofs (disch := omega) only [↓reduceIte, go_sem, reduceToNat, reduceAdd, reduceLeDiff, reduceEqDiff, reduceSub, reduceMul, reduceCtorEq]
      exact ⟨by rw [← hr]; unfold lastP2 lastV; dsimp only; rw [if_neg hc, hnx, if_pos (show d.term % 4 = 0 ∨ d.term % 4 = 1 from .inr q1), if_neg q5]; simp [encIn, encO, vregP, immP, noOpd, encSt, encCs, of0], rfl⟩
    ·simp -implicitDefEqProofs (disch := omega) only [↓reduceIte, go_sem, reduceToNat, reduceAdd, reduceLeDiff, reduceEqDiff, reduceSub, reduceMul, reduceCtorEq, ht4]
     refine ifE (fun q2 => ?_) (fun q2 => ?_)
     ·simp -implicitDefEqProofs (disch := omega) only [↓reduceIte, go_sem, reduceToNat, reduceAdd, reduceLeDiff, reduceEqDiff, reduceSub, reduceMul, reduceCtorEq, ha3]
      refine callL (hga h2) ?_
      simp -implicitDefEqProofs (disch := omega) only [↓reduceIte, go_sem, reduceToNat, reduceAdd, reduceLeDiff, reduceEqDiff, reduceSub, reduceMul, reduceCtorEq]
      refine callL (hgb h2) ?_
      simp -implicitDefEqProofs (disch := omega) only [↓reduceIte, go_sem, reduceToNat, reduceAdd, reduceLeDiff, reduceEqDiff, reduceSub, reduceMul, reduceCtorEq]
      refine accL (by kernel_rfl) ?_
      simp -implicitDefEqProofs (disch := omega) only [↓reduceIte, go_sem, reduceToNat, reduceAdd, reduceLeDiff, reduceEqDiff, reduceSub, reduceMul, reduceCtorEq, hv2]
      refine ifE (fun q3 => ?_) (fun q3 => ?_)
      ·simp -implicitDefEqProofs (disch := omega) only [↓reduceIte, go_sem, reduceToNat, reduceAdd, reduceLeDiff, reduceEqDiff, reduceSub, reduceMul, reduceCtorEq]
       refine callL (hgb h2) ?_
       simp -implicitDefEqProofs (disch := omega) only [↓reduceIte, go_sem, reduceToNat, reduceAdd, reduceLeDiff, reduceEqDiff, reduceSub, reduceMul, reduceCtorEq]
       refine accL (by kernel_rfl) ?_
       simp -implicitDefEqProofs (disch := omega) only [↓reduceIte, go_sem, reduceToNat, reduceAdd, reduceLeDiff, reduceEqDiff, reduceSub, reduceMul, reduceCtorEq]
       exact ⟨by rw [← hr]; unfold lastP2 lastV; dsimp only; rw [if_neg hc, hnx, if_neg (show ¬ (d.term % 4 = 0 ∨ d.term % 4 = 1) from fun h => h.elim q0 q1), if_pos q2, if_pos q3]; simp [encIn, encO, vregP, immP, noOpd, encSt, encCs, of0], rfl⟩
      ·simp -implicitDefEqProofs (disch := omega) only [↓reduceIte, go_sem, reduceToNat, reduceAdd, reduceLeDiff, reduceEqDiff, reduceSub, reduceMul, reduceCtorEq]
       exact ⟨by rw [← hr]; unfold lastP2 lastV; dsimp only; rw [if_neg hc, hnx, if_neg (show ¬ (d.term % 4 = 0 ∨ d.term % 4 = 1) from fun h => h.elim q0 q1), if_pos q2, if_neg q3]; simp [encIn, encO, vregP, immP, noOpd, encSt, encCs, of0], rfl⟩
     ·simp -implicitDefEqProofs (disch := omega) only [↓reduceIte, go_sem, reduceToNat, reduceAdd, reduceLeDiff, reduceEqDiff, reduceSub, reduceMul, reduceCtorEq]
      exact ⟨by rw [← hr]; unfold lastP2 lastV; dsimp only; rw [if_neg hc, hnx, if_neg (show ¬ (d.term % 4 = 0 ∨ d.term % 4 = 1) from fun h => h.elim q0 q1), if_neg q2]; simp [encIn, encO, vregP, immP, noOpd, encSt, encCs, of0], rfl⟩
/- Making a function of a draft. -/
theorem cntP_le (d : Drf) (c : Nat) : 1 ≤ cntP d c ∧ cntP d 0 ≤ 6 ∧ cntP d 1 ≤ 3 := by
 unfold cntP
 refine ⟨by split <;> omega, by simp only [if_true]; omega, ?_⟩
 rw [if_neg (by decide)]
 omega
theorem idsP_len {n c : Nat} : (idsP n c).length = n := by simp [idsP]
theorem idsP_succ {n c : Nat} : idsP (n + 1) c = idsP n c ++ [2 * n + c] := by simp [idsP, List.range_succ]
def rgK (v : Nat) : List AV := encRg ⟨(v : Int), ((v % 2 : Nat) : Int)⟩
def cOf (a b k c : Nat) : Nat := if c ≤ k then a else b
theorem regP_succ {d : Drf} {n : Nat} : regP d (n + 1) = if n / 2 < cntP d (n % 2) then regP d n ++ [n] else regP d n := by
 unfold regP
 rw [List.range_succ, List.filter_append]
 by_cases h : n / 2 < cntP d (n % 2)
 ·rw [if_pos h]; simp [h]
 ·rw [if_neg h]; simp [h]
theorem regP_le {d : Drf} {n : Nat} : (regP d n).length ≤ n := by
 unfold regP
 have := List.length_filter_le (fun i => decide (i / 2 < cntP d (i % 2))) (List.range n)
 rwa [List.length_range] at this
theorem filt_succ {p : Nat → Bool} {n : Nat} : (List.range (n + 1)).filter p = if p n = true then (List.range n).filter p ++ [n] else (List.range n).filter p := by
 rw [List.range_succ, List.filter_append]
 by_cases h : p n = true
 ·rw [if_pos h]; simp [h]
 ·rw [if_neg h]; simp [h]
theorem filt_le {p : Nat → Bool} {n : Nat} : ((List.range n).filter p).length ≤ n := by
 have := List.length_filter_le p (List.range n)
 rwa [List.length_range] at this
theorem hasTo_succ {d : Drf} {n : Nat} : hasTo d (n + 1) = if hasAt d n = true then hasTo d n ++ [(regP d 12).getD n 0] else hasTo d n := by
 unfold hasTo
 rw [filt_succ]
 split <;> simp
theorem parTo_succ {d : Drf} {n : Nat} : parTo d (n + 1) = if n < parP d then parTo d n ++ [(regP d 12).getD n 0] else parTo d n := by
 unfold parTo
 rw [filt_succ]
 by_cases h : n < parP d
 ·rw [if_pos (by simpa using h), if_pos h]; simp
 ·rw [if_neg (by simpa using h), if_neg h]
theorem startTo_succ {d : Drf} {n : Nat} : startTo d (n + 1) = if hasAt d n = true ∧ ¬ n < parP d then startTo d n ++ [startI ((regP d 12).getD n 0)] else startTo d n := by
 unfold startTo
 rw [filt_succ]
 by_cases h : hasAt d n = true ∧ ¬ n < parP d
 ·rw [if_pos (by simpa using h), if_pos h]; simp
 ·rw [if_neg (by simpa using h), if_neg h]
theorem instrP_len {ids : Ids} {has : List Nat} {d : DIn} : (instrP ids has d).1.length ≤ has.length + 1 := by
 unfold instrP
 dsimp only
 repeat' split
 all_goals first | exact giveH_len | simp
theorem hasTo_le {d : Drf} {n : Nat} : (hasTo d n).length ≤ n := by unfold hasTo; rw [List.length_map]; exact filt_le
theorem parTo_le {d : Drf} {n : Nat} : (parTo d n).length ≤ n := by unfold parTo; rw [List.length_map]; exact filt_le
theorem startTo_le {d : Drf} {n : Nat} : (startTo d n).length ≤ n := by unfold startTo; rw [List.length_map]; exact filt_le
set_option maxHeartbeats 4000000 in
theorem C7 (d : Drf) (hd : d.Ok) (hb : d.blocks.length ≤ 9) (hbc : ∀ b ∈ d.blocks, b.code.length ≤ 1000) :
  Ctr Tryz.prog 7 [.agg (encDr d)] [] (ret [.agg (encFn (makeP d))]) := by
 obtain ⟨⟨g1, g2⟩, ⟨x1, x2⟩, ⟨p1, p2⟩, hbk⟩ := hd
 have hg6 : 1 + Int.tmod d.g 6 = ((cntP d 0 : Nat) : Int) := by rw [Int.tmod_eq_emod_of_nonneg g1, cntP, if_pos rfl]; omega
 have hx3 : 1 + Int.tmod d.x 3 = ((cntP d 1 : Nat) : Int) := by rw [Int.tmod_eq_emod_of_nonneg x1, cntP, if_neg (by decide)]; omega
 have hgr : 0 ≤ Int.tmod d.g 6 ∧ Int.tmod d.g 6 < 6 := by rw [Int.tmod_eq_emod_of_nonneg g1]; omega
 have hxr : 0 ≤ Int.tmod d.x 3 ∧ Int.tmod d.x 3 < 3 := by rw [Int.tmod_eq_emod_of_nonneg x1]; omega
 have hc0 := cntP_le d 0
 have hc1 := cntP_le d 1
 have hids : drIds d = ⟨idsP (cntP d 0) 0, idsP (cntP d 1) 1⟩ := rfl
 generalize hn0 : cntP d 0 = n0 at hg6 hc0 hc1 hids
 generalize hn1 : cntP d 1 = n1 at hx3 hc0 hc1 hids
 generalize hres : makeP d = res
 apply ctr_b A7_ok rfl (Nat.le_of_ble_eq_true rfl)
 unfold A7
 simp only [initL, Nat.reduceAdd, encDr]
 simp -implicitDefEqProofs (disch := omega) only [↓reduceIte, go_sem, reduceToNat, reduceAdd, reduceLeDiff, reduceEqDiff, reduceSub, reduceMul, reduceCtorEq, hg6, hx3]
 refine loopL (σ := Nat) (fun c => ⟨[(1, .rp [.int .u8 d.g, .int .u8 d.x, .int .u8 d.p, .sl (d.blocks.map encDB)]), (2, .ref 2 0), (3, .ref 19 0), (4, .rp [.int .i64 (n0 : Int), .int .i64 (n1 : Int)]), (5, .int .i64 (c : Int))], [(2, .pbox [.bool false, .str .empty, .sl [], .sl [], .sl []]), (19, .box [.bool false, .str ⟨#[102]⟩, .hs 1002 (0) 0 (0), .hs 1003 (0) 0 (0), .hs 1004 (0) 0 (0), .hs 1005 (cOf 0 n0 0 c) 0 (cOf 0 n0 0 c), .hs 1006 (cOf 0 n1 1 c) 0 (cOf 0 n1 1 c), .hs 1007 (0) 0 (0)]), (1002, .arr (0) 2 ([])), (1003, .arr (0) 4 ([])), (1004, .arr (0) 4 ([])), (1005, .arr (cOf 0 n0 0 c) 1 ((idsP (cOf 0 n0 0 c) 0).map encK)), (1006, .arr (cOf 0 n1 1 c) 1 ((idsP (cOf 0 n1 1 c) 1).map encK)), (1007, .arr (0) 1 ([]))]⟩) (fun c => c ≤ 2) (fun c => 2 - c) 0 (by simp -implicitDefEqProofs (disch := omega) only [↓reduceIte, go_sem, reduceToNat, reduceAdd, reduceLeDiff, reduceEqDiff, reduceSub, reduceMul, reduceCtorEq]; rfl) (by omega) ?_
 intro c hc
 simp -implicitDefEqProofs (disch := omega) only [↓reduceIte, go_sem, reduceToNat, reduceAdd, reduceLeDiff, reduceEqDiff, reduceSub, reduceMul, reduceCtorEq]
 refine ifD (fun c1 => ?_) (fun c1 => ?_)
 ·refine (show c = 0 ∨ c = 1 by omega).elim (fun h => ?_) (fun h => ?_)
  ·simp -implicitDefEqProofs (disch := omega) only [↓reduceIte, go_sem, reduceToNat, reduceAdd, reduceLeDiff, reduceEqDiff, reduceSub, reduceMul, reduceCtorEq, h, cOf]
   refine loopL (σ := Nat) (fun s => ⟨[(1, .rp [.int .u8 d.g, .int .u8 d.x, .int .u8 d.p, .sl (d.blocks.map encDB)]), (2, .ref 2 0), (3, .ref 19 0), (4, .rp [.int .i64 (n0 : Int), .int .i64 (n1 : Int)]), (5, .int .i64 ((0 : Nat) : Int)), (6, .int .i64 (s : Int))], [(2, .pbox [.bool false, .str .empty, .sl [], .sl [], .sl []]), (19, .box [.bool false, .str ⟨#[102]⟩, .hs 1002 (0) 0 (0), .hs 1003 (0) 0 (0), .hs 1004 (0) 0 (0), .hs 1005 (s) 0 (s), .hs 1006 (0) 0 (0), .hs 1007 (0) 0 (0)]), (1002, .arr (0) 2 ([])), (1003, .arr (0) 4 ([])), (1004, .arr (0) 4 ([])), (1005, .arr (s) 1 ((idsP s 0).map encK)), (1006, .arr (0) 1 ((idsP 0 1).map encK)), (1007, .arr (0) 1 ([]))]⟩) (fun s => s ≤ n0) (fun s => n0 - s) 0 (by simp -implicitDefEqProofs (disch := omega) only [↓reduceIte, go_sem, reduceToNat, reduceAdd, reduceLeDiff, reduceEqDiff, reduceSub, reduceMul, reduceCtorEq]; rfl) (by omega) ?_
   intro s hs
   have hnx := idsP_succ (n := s) (c := 0)
   have hln := idsP_len (n := s) (c := 0)
   generalize hL : idsP s 0 = L at hnx hln ⊢
   simp -implicitDefEqProofs (disch := omega) only [↓reduceIte, go_sem, reduceToNat, reduceAdd, reduceLeDiff, reduceEqDiff, reduceSub, reduceMul, reduceCtorEq]
   refine ifD (fun c2 => ?_) (fun c2 => ?_)
   ·have hcp : ((s + 1 : Nat) : Int) * ((8 : Nat) : Int) ≤ 70368744177664 := by omega
    simp -implicitDefEqProofs (disch := omega) only [↓reduceIte, go_sem, reduceToNat, reduceAdd, reduceLeDiff, reduceEqDiff, reduceSub, reduceMul, reduceCtorEq, hln, hcp]
    refine accL (by kernel_rfl) ?_
    simp -implicitDefEqProofs (disch := omega) only [↓reduceIte, go_sem, reduceToNat, reduceAdd, reduceLeDiff, reduceEqDiff, reduceSub, reduceMul, reduceCtorEq, hln]
    exact ⟨s + 1, by rw [hnx]; simp [encK], by omega, by omega⟩
   ·have hse : s = n0 := by omega
    simp -implicitDefEqProofs (disch := omega) only [↓reduceIte, go_sem, reduceToNat, reduceAdd, reduceLeDiff, reduceEqDiff, reduceSub, reduceMul, reduceCtorEq]
    exact ⟨1, by simp [cOf, ← hL, hse], by omega, by omega⟩
  ·simp -implicitDefEqProofs (disch := omega) only [↓reduceIte, go_sem, reduceToNat, reduceAdd, reduceLeDiff, reduceEqDiff, reduceSub, reduceMul, reduceCtorEq, h, cOf]
   refine loopL (σ := Nat) (fun s => ⟨[(1, .rp [.int .u8 d.g, .int .u8 d.x, .int .u8 d.p, .sl (d.blocks.map encDB)]), (2, .ref 2 0), (3, .ref 19 0), (4, .rp [.int .i64 (n0 : Int), .int .i64 (n1 : Int)]), (5, .int .i64 ((1 : Nat) : Int)), (6, .int .i64 (s : Int))], [(2, .pbox [.bool false, .str .empty, .sl [], .sl [], .sl []]), (19, .box [.bool false, .str ⟨#[102]⟩, .hs 1002 (0) 0 (0), .hs 1003 (0) 0 (0), .hs 1004 (0) 0 (0), .hs 1005 (n0) 0 (n0), .hs 1006 (s) 0 (s), .hs 1007 (0) 0 (0)]), (1002, .arr (0) 2 ([])), (1003, .arr (0) 4 ([])), (1004, .arr (0) 4 ([])), (1005, .arr (n0) 1 ((idsP n0 0).map encK)), (1006, .arr (s) 1 ((idsP s 1).map encK)), (1007, .arr (0) 1 ([]))]⟩) (fun s => s ≤ n1) (fun s => n1 - s) 0 (by simp -implicitDefEqProofs (disch := omega) only [↓reduceIte, go_sem, reduceToNat, reduceAdd, reduceLeDiff, reduceEqDiff, reduceSub, reduceMul, reduceCtorEq]; rfl) (by omega) ?_
   intro s hs
   have hnx := idsP_succ (n := s) (c := 1)
   have hln := idsP_len (n := s) (c := 1)
   generalize hL : idsP s 1 = L at hnx hln ⊢
   simp -implicitDefEqProofs (disch := omega) only [↓reduceIte, go_sem, reduceToNat, reduceAdd, reduceLeDiff, reduceEqDiff, reduceSub, reduceMul, reduceCtorEq]
   refine ifD (fun c2 => ?_) (fun c2 => ?_)
   ·have hcp : ((s + 1 : Nat) : Int) * ((8 : Nat) : Int) ≤ 70368744177664 := by omega
    simp -implicitDefEqProofs (disch := omega) only [↓reduceIte, go_sem, reduceToNat, reduceAdd, reduceLeDiff, reduceEqDiff, reduceSub, reduceMul, reduceCtorEq, hln, hcp]
    refine accL (by kernel_rfl) ?_
    simp -implicitDefEqProofs (disch := omega) only [↓reduceIte, go_sem, reduceToNat, reduceAdd, reduceLeDiff, reduceEqDiff, reduceSub, reduceMul, reduceCtorEq, hln]
    exact ⟨s + 1, by rw [hnx]; simp [encK], by omega, by omega⟩
   ·have hse : s = n1 := by omega
    simp -implicitDefEqProofs (disch := omega) only [↓reduceIte, go_sem, reduceToNat, reduceAdd, reduceLeDiff, reduceEqDiff, reduceSub, reduceMul, reduceCtorEq]
    exact ⟨2, by simp [cOf, ← hL, hse], by omega, by omega⟩
 ·have h : c = 2 := by omega
  simp -implicitDefEqProofs (disch := omega) only [↓reduceIte, go_sem, reduceToNat, reduceAdd, reduceLeDiff, reduceEqDiff, reduceSub, reduceMul, reduceCtorEq, h, cOf]
  refine loopL (σ := Nat) (fun s => ⟨[(1, .rp [.int .u8 d.g, .int .u8 d.x, .int .u8 d.p, .sl (d.blocks.map encDB)]), (2, .ref 2 0), (3, .ref 19 0), (4, .rp [.int .i64 (n0 : Int), .int .i64 (n1 : Int)]), (7, .int .i64 (s : Int))], [(2, .pbox [.bool false, .str .empty, .sl [], .sl [], .sl []]), (19, .box [.bool false, .str ⟨#[102]⟩, .hs 1002 ((regP d s).length) 0 ((regP d s).length), .hs 1003 (0) 0 (0), .hs 1004 (0) 0 (0), .hs 1005 (n0) 0 (n0), .hs 1006 (n1) 0 (n1), .hs 1007 (0) 0 (0)]), (1002, .arr ((regP d s).length) 2 ((regP d s).map rgK)), (1003, .arr (0) 4 ([])), (1004, .arr (0) 4 ([])), (1005, .arr (n0) 1 ((idsP n0 0).map encK)), (1006, .arr (n1) 1 ((idsP n1 1).map encK)), (1007, .arr (0) 1 ([]))]⟩) (fun s => s ≤ 12) (fun s => 12 - s) 0 (by simp -implicitDefEqProofs (disch := omega) only [↓reduceIte, go_sem, reduceToNat, reduceAdd, reduceLeDiff, reduceEqDiff, reduceSub, reduceMul, reduceCtorEq]; rfl) (by omega) ?_
  intro s hs
  have hnx := regP_succ (d := d) (n := s)
  have hle := regP_le (d := d) (n := s)
  generalize hR : regP d s = R at hnx hle ⊢
  simp -implicitDefEqProofs (disch := omega) only [↓reduceIte, go_sem, reduceToNat, reduceAdd, reduceLeDiff, reduceEqDiff, reduceSub, reduceMul, reduceCtorEq]
  refine ifD (fun c2 => ?_) (fun c2 => ?_)
  ·have hq : Int.tdiv (s : Int) 2 = ((s / 2 : Nat) : Int) := by rw [Int.tdiv_eq_ediv_of_nonneg (by omega)]; omega
   have hcp : ((R.length + 1 : Nat) : Int) * ((16 : Nat) : Int) ≤ 70368744177664 := by omega
   refine (show s % 2 = 0 ∨ s % 2 = 1 by omega).elim (fun h2 => ?_) (fun h2 => ?_)
   ·have hm : Int.tmod (s : Int) 2 = 0 := by rw [Int.tmod_eq_emod_of_nonneg (by omega)]; omega
    rw [h2, hn0] at hnx
    simp -implicitDefEqProofs (disch := omega) only [↓reduceIte, go_sem, reduceToNat, reduceAdd, reduceLeDiff, reduceEqDiff, reduceSub, reduceMul, reduceCtorEq, hm, hq]
    refine ifD (fun c3 => ?_) (fun c3 => ?_)
    ·rw [if_pos (by omega)] at hnx
     simp -implicitDefEqProofs (disch := omega) only [↓reduceIte, go_sem, reduceToNat, reduceAdd, reduceLeDiff, reduceEqDiff, reduceSub, reduceMul, reduceCtorEq, hcp]
     exact ⟨s + 1, by rw [hnx]; simp [rgK, encRg, h2], by omega, by omega⟩
    ·rw [if_neg (by omega)] at hnx
     simp -implicitDefEqProofs (disch := omega) only [↓reduceIte, go_sem, reduceToNat, reduceAdd, reduceLeDiff, reduceEqDiff, reduceSub, reduceMul, reduceCtorEq]
     exact ⟨s + 1, by rw [hnx]; simp, by omega, by omega⟩
   ·have hm : Int.tmod (s : Int) 2 = 1 := by rw [Int.tmod_eq_emod_of_nonneg (by omega)]; omega
    rw [h2, hn1] at hnx
    simp -implicitDefEqProofs (disch := omega) only [↓reduceIte, go_sem, reduceToNat, reduceAdd, reduceLeDiff, reduceEqDiff, reduceSub, reduceMul, reduceCtorEq, hm, hq]
    refine ifD (fun c3 => ?_) (fun c3 => ?_)
    ·rw [if_pos (by omega)] at hnx
     simp -implicitDefEqProofs (disch := omega) only [↓reduceIte, go_sem, reduceToNat, reduceAdd, reduceLeDiff, reduceEqDiff, reduceSub, reduceMul, reduceCtorEq, hcp]
     exact ⟨s + 1, by rw [hnx]; simp [rgK, encRg, h2], by omega, by omega⟩
    ·rw [if_neg (by omega)] at hnx
     simp -implicitDefEqProofs (disch := omega) only [↓reduceIte, go_sem, reduceToNat, reduceAdd, reduceLeDiff, reduceEqDiff, reduceSub, reduceMul, reduceCtorEq]
     exact ⟨s + 1, by rw [hnx]; simp, by omega, by omega⟩
  ·have hse : s = 12 := by omega
   rw [hse] at hR
   simp -implicitDefEqProofs (disch := omega) only [↓reduceIte, go_sem, reduceToNat, reduceAdd, reduceLeDiff, reduceEqDiff, reduceSub, reduceMul, reduceCtorEq]
   refine loopL (σ := Nat) (fun s => ⟨[(1, .rp [.int .u8 d.g, .int .u8 d.x, .int .u8 d.p, .sl (d.blocks.map encDB)]), (2, .ref 2 0), (3, .ref 19 0), (9, .hs 9 ((startTo d s).length) 0 ((startTo d s).length)), (10, .int .i64 (s : Int))], [(2, .pbox [.bool false, .str .empty, .sl [], .sl [], .sl []]), (9, .arr ((startTo d s).length) 10 ((startTo d s).map encIn)), (19, .box [.bool false, .str ⟨#[102]⟩, .hs 1002 (R.length) 0 (R.length), .hs 1003 ((parTo d s).length) 0 ((parTo d s).length), .hs 1004 (0) 0 (0), .hs 1005 (n0) 0 (n0), .hs 1006 (n1) 0 (n1), .hs 1007 ((hasTo d s).length) 0 ((hasTo d s).length)]), (1002, .arr (R.length) 2 (R.map rgK)), (1003, .arr ((parTo d s).length) 4 ((parTo d s).map (fun v => encO (vregP v)))), (1004, .arr (0) 4 ([])), (1005, .arr (n0) 1 ((idsP n0 0).map encK)), (1006, .arr (n1) 1 ((idsP n1 1).map encK)), (1007, .arr ((hasTo d s).length) 1 ((hasTo d s).map encK))]⟩) (fun s => s ≤ R.length) (fun s => R.length - s) 0 (by simp -implicitDefEqProofs (disch := omega) only [↓reduceIte, go_sem, reduceToNat, reduceAdd, reduceLeDiff, reduceEqDiff, reduceSub, reduceMul, reduceCtorEq]; rfl) (by omega) ?_
   clear hnx hs hse c2 hc c1 h
   intro s hs
   have hR12 : R.length ≤ 12 := by rw [← hR]; exact regP_le
   have hpn := parTo_succ (d := d) (n := s)
   have hhn := hasTo_succ (d := d) (n := s)
   have hsn := startTo_succ (d := d) (n := s)
   have hpl := parTo_le (d := d) (n := s)
   have hhl := hasTo_le (d := d) (n := s)
   have hsl := startTo_le (d := d) (n := s)
   have hpm : Int.tmod d.p ((R.length : Int) + 1) = ((parP d : Nat) : Int) := by
    have := tmod_nat (m := R.length + 1) p1
    rw [parP, hR]
    exact this
   have hha : hasAt d s = (decide (s < parP d) || (decide (s < 2) || decide (s + 2 < R.length))) := by rw [hasAt, hR]
   rw [hR] at hpn hhn hsn
   generalize hPT : parTo d s = PT at hpn hpl ⊢
   generalize hHT : hasTo d s = HT at hhn hhl ⊢
   generalize hST : startTo d s = ST at hsn hsl ⊢
   simp -implicitDefEqProofs (disch := omega) only [↓reduceIte, go_sem, reduceToNat, reduceAdd, reduceLeDiff, reduceEqDiff, reduceSub, reduceMul, reduceCtorEq]
   refine ifD (fun c2 => ?_) (fun c2 => ?_)
   ·have hgr2 : (R.map rgK)[s]? = some (rgK (R.getD s 0)) := by rw [List.getElem?_map, getDq (by omega)]; rfl
    have hg2 : R[s]? = some (R.getD s 0) := getDq (by omega)
    have hcp : ((PT.length + 1 : Nat) : Int) * ((32 : Nat) : Int) ≤ 70368744177664 := by omega
    have hch : ((HT.length + 1 : Nat) : Int) * ((8 : Nat) : Int) ≤ 70368744177664 := by omega
    have hcs : ((ST.length + 1 : Nat) : Int) * ((136 : Nat) : Int) ≤ 70368744177664 := by omega
    generalize R.getD s 0 = v at hgr2 hg2 hpn hhn hsn
    have hv := C22 (v : Int)
    have hi := C23 (3 * (v : Int))
    simp only [encO, immP] at hv hi
    have hv12 : v < 12 := by
     have hm : v ∈ regP d 12 := by rw [hR]; exact List.mem_of_getElem? hg2
     unfold regP at hm
     exact List.mem_range.1 (List.mem_filter.1 hm).1
    simp -implicitDefEqProofs (disch := omega) only [↓reduceIte, go_sem, reduceToNat, reduceAdd, reduceLeDiff, reduceEqDiff, reduceSub, reduceMul, reduceCtorEq, hgr2, hg2, rgK, encRg]
    refine accL (by kernel_rfl) ?_
    simp -implicitDefEqProofs (disch := omega) only [↓reduceIte, go_sem, reduceToNat, reduceAdd, reduceLeDiff, reduceEqDiff, reduceSub, reduceMul, reduceCtorEq, hpm]
    refine ifD (fun c3 => ?_) (fun c3 => ?_)
    ·rw [if_pos (by omega)] at hpn
     have hh1 : hasAt d s = true := by rw [hha, decide_eq_true (show s < parP d by omega)]; rfl
     rw [if_pos hh1] at hhn
     rw [if_neg (fun h => h.2 (by omega))] at hsn
     simp -implicitDefEqProofs (disch := omega) only [↓reduceIte, go_sem, reduceToNat, reduceAdd, reduceLeDiff, reduceEqDiff, reduceSub, reduceMul, reduceCtorEq]
     refine callL hv ?_
     simp -implicitDefEqProofs (disch := omega) only [↓reduceIte, go_sem, reduceToNat, reduceAdd, reduceLeDiff, reduceEqDiff, reduceSub, reduceMul, reduceCtorEq, hcp]
     refine accL (by kernel_rfl) ?_
     simp -implicitDefEqProofs (disch := omega) only [↓reduceIte, go_sem, reduceToNat, reduceAdd, reduceLeDiff, reduceEqDiff, reduceSub, reduceMul, reduceCtorEq, hch]
     exact ⟨s + 1, by rw [hpn, hhn, hsn]; simp [encO, vregP, encK], by omega, by omega⟩
    ·rw [if_neg (by omega)] at hpn
     have hh2 : hasAt d s = (decide (s < 2) || decide (s + 2 < R.length)) := by rw [hha, decide_eq_false (show ¬ s < parP d by omega)]; rfl
     simp -implicitDefEqProofs (disch := omega) only [↓reduceIte, go_sem, reduceToNat, reduceAdd, reduceLeDiff, reduceEqDiff, reduceSub, reduceMul, reduceCtorEq]
     refine ifD (fun c4 => ?_) (fun c4 => ?_)
     ·have hh1 : hasAt d s = true := by rw [hh2, decide_eq_true (show s < 2 by omega)]; rfl
      rw [if_pos hh1] at hhn
      rw [if_pos ⟨hh1, by omega⟩] at hsn
      simp -implicitDefEqProofs (disch := omega) only [↓reduceIte, go_sem, reduceToNat, reduceAdd, reduceLeDiff, reduceEqDiff, reduceSub, reduceMul, reduceCtorEq]
      refine callL hv ?_
      simp -implicitDefEqProofs (disch := omega) only [↓reduceIte, go_sem, reduceToNat, reduceAdd, reduceLeDiff, reduceEqDiff, reduceSub, reduceMul, reduceCtorEq]
      refine callL hi ?_
      simp -implicitDefEqProofs (disch := omega) only [↓reduceIte, go_sem, reduceToNat, reduceAdd, reduceLeDiff, reduceEqDiff, reduceSub, reduceMul, reduceCtorEq, hcs, hch]
      exact ⟨s + 1, by rw [hpn, hhn, hsn]; simp [encO, vregP, immP, encK, encIn, startI], by omega, by omega⟩
     ·simp -implicitDefEqProofs (disch := omega) only [↓reduceIte, go_sem, reduceToNat, reduceAdd, reduceLeDiff, reduceEqDiff, reduceSub, reduceMul, reduceCtorEq]
      refine ifD (fun c5 => ?_) (fun c5 => ?_)
      ·have hh1 : hasAt d s = true := by rw [hh2, decide_eq_true (show s + 2 < R.length by omega)]; simp
       rw [if_pos hh1] at hhn
       rw [if_pos ⟨hh1, by omega⟩] at hsn
       simp -implicitDefEqProofs (disch := omega) only [↓reduceIte, go_sem, reduceToNat, reduceAdd, reduceLeDiff, reduceEqDiff, reduceSub, reduceMul, reduceCtorEq]
       refine callL hv ?_
       simp -implicitDefEqProofs (disch := omega) only [↓reduceIte, go_sem, reduceToNat, reduceAdd, reduceLeDiff, reduceEqDiff, reduceSub, reduceMul, reduceCtorEq]
       refine callL hi ?_
       simp -implicitDefEqProofs (disch := omega) only [↓reduceIte, go_sem, reduceToNat, reduceAdd, reduceLeDiff, reduceEqDiff, reduceSub, reduceMul, reduceCtorEq, hcs, hch]
       exact ⟨s + 1, by rw [hpn, hhn, hsn]; simp [encO, vregP, immP, encK, encIn, startI], by omega, by omega⟩
      ·have hh1 : ¬ hasAt d s = true := by rw [hh2, decide_eq_false (show ¬ s < 2 by omega), decide_eq_false (show ¬ s + 2 < R.length by omega)]; simp
       rw [if_neg hh1] at hhn
       rw [if_neg (fun h => hh1 h.1)] at hsn
       simp -implicitDefEqProofs (disch := omega) only [↓reduceIte, go_sem, reduceToNat, reduceAdd, reduceLeDiff, reduceEqDiff, reduceSub, reduceMul, reduceCtorEq]
       exact ⟨s + 1, by rw [hpn, hhn, hsn]; simp, by omega, by omega⟩
   ·have hse : s = R.length := by omega
    have hall : allP d = HT := by rw [allP, hR, ← hse, hHT]
    have hnB : (if 1 > (d.blocks.length : Int) then (1 : Int) else (d.blocks.length : Int)) = ((nBlk d : Nat) : Int) := by
     unfold nBlk
     split <;> split <;> omega
    have hnb : 1 ≤ nBlk d ∧ nBlk d ≤ 9 := by unfold nBlk; split <;> omega
    have hti0 : List.take n0 (List.map encK (idsP n0 0)) = List.map encK (idsP n0 0) := List.take_of_length_le (by simp [idsP_len])
    have hti1 : List.take n1 (List.map encK (idsP n1 1)) = List.map encK (idsP n1 1) := List.take_of_length_le (by simp [idsP_len])
    have hST2 : startTo d (regP d 12).length = ST := by rw [hR, ← hse, hST]
    have hres2 : res = ⟨false, ⟨#[102]⟩, R.map fun v : Nat => ⟨(v : Int), ((v % 2 : Nat) : Int)⟩, PT.map vregP, (List.range (nBlk d)).map (blkP d)⟩ := by rw [← hres, makeP, hR, ← hse, hPT]
    have hiok : (drIds d).Ok := by
     rw [hids]
     exact ⟨by simp [idsP_len]; omega, by simp [idsP_len]; omega, by simp [idsP_len]; omega, by simp [idsP_len]; omega⟩
    have hbk2 : ∀ i, blkP d i = ⟨labelP i, false, [], (if i = 0 then ST else []) ++ (codeP (drIds d) HT (d.blocks.getD i noDB).code).2 ++ [lastP2 (drIds d) (codeP (drIds d) HT (d.blocks.getD i noDB).code).1 (d.blocks.getD i noDB) i (nBlk d)]⟩ := fun i => by rw [blkP, hST2, hall]
    generalize hids2 : drIds d = ids at hids hiok hbk2
    have hig : ids.g = idsP n0 0 := by rw [hids]
    have hix : ids.x = idsP n1 1 := by rw [hids]
    generalize hnn : nBlk d = n at hnB hnb hres2 hbk2
    clear hpn hhn hsn hpm hha hle hgr hxr hg6 hx3
    simp -implicitDefEqProofs (disch := omega) only [↓reduceIte, go_sem, reduceToNat, reduceAdd, reduceLeDiff, reduceEqDiff, reduceSub, reduceMul, reduceCtorEq, hnB, hti0, hti1]
    refine loopL (σ := Nat × Nat × List Nat) (fun x => ⟨[(1, .rp [.int .u8 d.g, .int .u8 d.x, .int .u8 d.p, .sl (d.blocks.map encDB)]), (2, .ref 2 0), (3, .ref 19 0), (9, .hs 9 ((if x.1 = 0 then ST else []).length) 0 ((if x.1 = 0 then ST else []).length)), (12, .sl (HT.map encK)), (13, .int .i64 (n : Int)), (14, .int .i64 (x.1 : Int))], [(2, .pbox [.bool false, .str .empty, .sl [], .sl [], .sl []]), (9, .arr ((if x.1 = 0 then ST else []).length) 10 ((if x.1 = 0 then ST else []).map encIn)), (19, .box [.bool false, .str ⟨#[102]⟩, .sl (R.map rgK), .sl (PT.map fun v => encO (vregP v)), .hs 1004 (x.1) 0 (x.1), .sl ((idsP n0 0).map encK), .sl ((idsP n1 1).map encK), .hs 1007 x.2.1 0 (x.2.2).length]), (1004, .arr (x.1) 4 ((List.range x.1).map fun i => encBk (blkP d i))), (1007, .arr x.2.1 1 (x.2.2.map encK))]⟩) (fun x => x.1 ≤ n) (fun x => n - x.1) (0, HT.length, HT) (by simp -implicitDefEqProofs (disch := omega) only [↓reduceIte, go_sem, reduceToNat, reduceAdd, reduceLeDiff, reduceEqDiff, reduceSub, reduceMul, reduceCtorEq, hnB, hti0, hti1]; rfl) (by simp) ?_
    rintro ⟨i, v, H⟩ hi
    simp only at hi
    have hbki := hbk2 i
    have hBSn : (List.range (i + 1)).map (fun i => encBk (blkP d i)) = (List.range i).map (fun i => encBk (blkP d i)) ++ [encBk (blkP d i)] := by rw [List.range_succ, List.map_append]; rfl
    have hBSl : ((List.range i).map (fun i => encBk (blkP d i))).length = i := by simp
    have hpl2 : (if i = 0 then ST else []).length ≤ 12 := by
     split
     ·omega
     ·simp
    generalize hBSe : (List.range i).map (fun i => encBk (blkP d i)) = BS at hBSn hBSl ⊢
    generalize hpre : (if i = 0 then ST else []) = pre at hbki hpl2 ⊢
    generalize hbq : d.blocks.getD i noDB = bq at hbki
    simp -implicitDefEqProofs (disch := omega) only [↓reduceIte, go_sem, reduceToNat, reduceAdd, reduceLeDiff, reduceEqDiff, reduceSub, reduceMul, reduceCtorEq]
    refine ifD (fun c3 => ?_) (fun c3 => ?_)
    ·simp -implicitDefEqProofs (disch := omega) only [↓reduceIte, go_sem, reduceToNat, reduceAdd, reduceLeDiff, reduceEqDiff, reduceSub, reduceMul, reduceCtorEq]
     refine joinL (σ := Unit) (fun _ => ⟨[(1, .rp [.int .u8 d.g, .int .u8 d.x, .int .u8 d.p, .sl (d.blocks.map encDB)]), (2, .ref 2 0), (3, .ref 19 0), (9, .hs 9 pre.length 0 pre.length), (12, .sl (HT.map encK)), (13, .int .i64 (n : Int)), (14, .int .i64 (i : Int)), (15, .ref 15 0)], [(2, .pbox [.bool false, .str .empty, .sl [], .sl [], .sl []]), (9, .arr pre.length 10 (pre.map encIn)), (15, .pbox [.sl (bq.code.map encDI), .int .u8 bq.term, .int .u8 bq.a, .int .u8 bq.b, .int .u8 bq.v]), (19, .box [.bool false, .str ⟨#[102]⟩, .sl (R.map rgK), .sl (PT.map fun v => encO (vregP v)), .hs 1004 i 0 i, .sl ((idsP n0 0).map encK), .sl ((idsP n1 1).map encK), .hs 1007 v 0 (H.length)]), (1004, .arr i 4 BS), (1007, .arr v 1 (H.map encK))]⟩) (fun _ => True) ?_ ?_
     ·simp -implicitDefEqProofs (disch := omega) only [↓reduceIte, go_sem, reduceToNat, reduceAdd, reduceLeDiff, reduceEqDiff, reduceSub, reduceMul, reduceCtorEq]
      refine ifD (fun c4 => ?_) (fun c4 => ?_)
      ·have hgb : Option.map encDB d.blocks[i]? = some (encDB bq) := by rw [← hbq]; simp [List.getD_eq_getElem?_getD, show i < d.blocks.length by omega]
       have hgb2 : (d.blocks.map encDB)[i]? = some (encDB bq) := by rw [List.getElem?_map]; exact hgb
       simp -implicitDefEqProofs (disch := omega) only [↓reduceIte, go_sem, reduceToNat, reduceAdd, reduceLeDiff, reduceEqDiff, reduceSub, reduceMul, reduceCtorEq, hgb, hgb2, encDB]
       exact ⟨(), trivial⟩
      ·have hbe : bq = noDB := by rw [← hbq]; simp [List.getD_eq_getElem?_getD, show d.blocks.length ≤ i by omega]
       simp -implicitDefEqProofs (disch := omega) only [↓reduceIte, go_sem, reduceToNat, reduceAdd, reduceLeDiff, reduceEqDiff, reduceSub, reduceMul, reduceCtorEq]
       exact ⟨(), by simp [hbe, noDB]⟩
     ·rintro _ _
      have hHTc : (∀ c ∈ HT.map encK, c.length = 1) = True := by simp [encK]
      have hbok : bq.Ok ∧ bq.code.length ≤ 1000 := by
       rw [← hbq]
       by_cases hh : i < d.blocks.length
       ·have hm : d.blocks.getD i noDB ∈ d.blocks := by
         rw [show d.blocks.getD i noDB = d.blocks[i] by simp [List.getD_eq_getElem?_getD, hh]]
         exact List.getElem_mem hh
        exact ⟨hbk _ hm, hbc _ hm⟩
       ·rw [show d.blocks.getD i noDB = noDB by simp [List.getD_eq_getElem?_getD, show d.blocks.length ≤ i by omega]]
        exact ⟨⟨fun x hx => (by cases hx), ⟨by decide, by decide⟩, ⟨by decide, by decide⟩, ⟨by decide, by decide⟩, ⟨by decide, by decide⟩⟩, by simp [noDB]⟩
      have hins := fun (v : Nat) (h : List Nat) (hh : h.length < 90000) (x : DIn) (hx : x.Ok) => C24 ⟨#[102]⟩ (R.map rgK) (PT.map fun v => encO (vregP v)) BS ids hiok i v h hh x hx
      have hlast := fun (v : Nat) (h : List Nat) (hh : h.length < 90000) => C25 ⟨#[102]⟩ (R.map rgK) (PT.map fun v => encO (vregP v)) BS ids hiok i v h hh bq hbok.1 i n (by omega) hnb.2
      simp only [mkO, hBSl, hig, hix] at hins hlast
      have hcode := hbok.1.hcode
      have hcl := hbok.2
      generalize hbc2 : bq.code = bc at hcode hcl hbki
      simp -implicitDefEqProofs (disch := omega) only [↓reduceIte, go_sem, reduceToNat, reduceAdd, reduceLeDiff, reduceEqDiff, reduceSub, reduceMul, reduceCtorEq, hHTc]
      refine loopL (σ := Nat × List Nat × Nat × List Ins) (fun y => ⟨[(1, .rp [.int .u8 d.g, .int .u8 d.x, .int .u8 d.p, .sl (d.blocks.map encDB)]), (2, .ref 2 0), (3, .ref 19 0), (9, .hs 9 y.2.2.2.length 0 y.2.2.2.length), (12, .sl (HT.map encK)), (13, .int .i64 (n : Int)), (14, .int .i64 (i : Int)), (15, .ref 15 0), (16, .int .i64 (y.1 : Int))], [(2, .pbox [.bool false, .str .empty, .sl [], .sl [], .sl []]), (9, .arr y.2.2.2.length 10 (y.2.2.2.map encIn)), (15, .pbox [.sl (bq.code.map encDI), .int .u8 bq.term, .int .u8 bq.a, .int .u8 bq.b, .int .u8 bq.v]), (19, .box [.bool false, .str ⟨#[102]⟩, .sl (R.map rgK), .sl (PT.map fun v => encO (vregP v)), .hs 1004 i 0 i, .sl ((idsP n0 0).map encK), .sl ((idsP n1 1).map encK), .hs 200 y.2.2.1 0 (y.2.1.length)]), (1004, .arr i 4 BS), (200, .arr y.2.2.1 1 (y.2.1.map encK))]⟩) (fun y => y.1 ≤ bc.length ∧ (codeP ids y.2.1 (bc.drop y.1)).1 = (codeP ids HT bc).1 ∧ y.2.2.2 ++ (codeP ids y.2.1 (bc.drop y.1)).2 = pre ++ (codeP ids HT bc).2 ∧ y.2.1.length ≤ HT.length + y.1 ∧ y.2.2.2.length = pre.length + y.1) (fun y => bc.length - y.1) (0, HT, 1, pre) (by simp -implicitDefEqProofs (disch := omega) only [↓reduceIte, go_sem, reduceToNat, reduceAdd, reduceLeDiff, reduceEqDiff, reduceSub, reduceMul, reduceCtorEq, hHTc, hbc2]; rfl) ⟨Nat.zero_le _, rfl, rfl, Nat.le_refl _, rfl⟩ ?_
      rintro ⟨k, hh, vv, cs⟩ ⟨y1, y2, y3, y4, y5⟩
      simp only at y1 y2 y3 y4 y5
      simp -implicitDefEqProofs (disch := omega) only [↓reduceIte, go_sem, reduceToNat, reduceAdd, reduceLeDiff, reduceEqDiff, reduceSub, reduceMul, reduceCtorEq, hbc2]
      refine ifD (fun c4 => ?_) (fun c4 => ?_)
      ·have hgd : bc[k]? = some (bc.getD k ⟨0, 0, 0, 0, 0⟩) := by simp [List.getD_eq_getElem?_getD, show k < bc.length by omega]
       have hxm := List.mem_of_getElem? hgd
       have hdr : bc.drop k = bc.getD k ⟨0, 0, 0, 0, 0⟩ :: bc.drop (k + 1) := by
        rw [List.drop_eq_getElem_cons (by omega)]
        simp [List.getD_eq_getElem?_getD, show k < bc.length by omega]
       generalize bc.getD k ⟨0, 0, 0, 0, 0⟩ = x at hgd hxm hdr
       have hgd2 : Option.map encDI bc[k]? = some (encDI x) := by rw [hgd]; rfl
       have hin1 := hins vv hh (by omega) x (hcode x hxm)
       have hql := instrP_len (ids := ids) (has := hh) (d := x)
       rw [hdr] at y2 y3
       simp only [codeP] at y2 y3
       generalize instrP ids hh x = q at hin1 hql y2 y3
       have hcp : ((cs.length + 1 : Nat) : Int) * ((136 : Nat) : Int) ≤ 70368744177664 := by omega
       simp -implicitDefEqProofs (disch := omega) only [↓reduceIte, go_sem, reduceToNat, reduceAdd, reduceLeDiff, reduceEqDiff, reduceSub, reduceMul, reduceCtorEq, hbc2, hgd, hgd2, encDI]
       refine callD hin1 ?_
       simp -implicitDefEqProofs (disch := omega) only [↓reduceIte, go_sem, reduceToNat, reduceAdd, reduceLeDiff, reduceEqDiff, reduceSub, reduceMul, reduceCtorEq, encIn, hcp]
       refine ⟨(k + 1, q.1, verP vv hh q.1, cs ++ [q.2]), by simp [encIn, hbc2], ⟨by omega, y2, by rw [← y3]; simp, by simp only; omega, by simp; omega⟩, by simp only; omega⟩
      ·have hke : k = bc.length := by omega
       rw [hke, List.drop_length] at y2 y3
       simp only [codeP, List.append_nil] at y2 y3
       rw [← y2] at hbki
       have hl1 := hlast vv hh (by omega)
       have hlb := C26 i (by omega)
       generalize hlp : lastP2 ids hh bq i n = lp at hl1 hbki
       simp only [encDB, hbc2] at hl1
       have hcp : ((cs.length + 1 : Nat) : Int) * ((136 : Nat) : Int) ≤ 70368744177664 := by omega
       have hcb : ((i + 1 : Nat) : Int) * ((72 : Nat) : Int) ≤ 70368744177664 := by omega
       rw [← y3] at hbki
       simp -implicitDefEqProofs (disch := omega) only [↓reduceIte, go_sem, reduceToNat, reduceAdd, reduceLeDiff, reduceEqDiff, reduceSub, reduceMul, reduceCtorEq, hbc2]
       refine callD hl1 ?_
       simp -implicitDefEqProofs (disch := omega) only [↓reduceIte, go_sem, reduceToNat, reduceAdd, reduceLeDiff, reduceEqDiff, reduceSub, reduceMul, reduceCtorEq, encIn, hcp]
       refine callL hlb ?_
       simp -implicitDefEqProofs (disch := omega) only [↓reduceIte, go_sem, reduceToNat, reduceAdd, reduceLeDiff, reduceEqDiff, reduceSub, reduceMul, reduceCtorEq, hcb, hBSl]
       refine accL (by kernel_rfl) ?_
       simp -implicitDefEqProofs (disch := omega) only [↓reduceIte, go_sem, reduceToNat, reduceAdd, reduceLeDiff, reduceEqDiff, reduceSub, reduceMul, reduceCtorEq, hcb, hBSl]
       exact ⟨(i + 1, vv, hh), by simp only [hBSn, hbki]; simp [encBk, encIn, List.take_of_length_le], by simp only; omega, by simp only; omega⟩
    ·simp -implicitDefEqProofs (disch := omega) only [↓reduceIte, go_sem, reduceToNat, reduceAdd, reduceLeDiff, reduceEqDiff, reduceSub, reduceMul, reduceCtorEq]
     have hin : i = n := by omega
     refine ⟨?_, rfl⟩
     rw [hres2, ← hBSe, hin, List.take_of_length_le (by simp)]
     simp [encFn, rgK, Function.comp_def]
end Go.Proofs.YtgbmneoeggdaoaaGreatDoor.X
/- What a draft is made into: sizes; where its blocks go on. Plain. -/
namespace Go.AM
open Go
set_option linter.unusedVariables false
def sumC (bs : List DBk) : Nat := (bs.map fun b => 1 + b.code.length).sum
theorem sumC_snoc {bs : List DBk} {b : DBk} : sumC (bs ++ [b]) = sumC bs + (1 + b.code.length) := by simp [sumC]
theorem sumC_mem {bs : List DBk} {b : DBk} (h : b ∈ bs) : b.code.length + 1 ≤ sumC bs := by
 induction bs with
 | nil => cases h
 | cons a bs ih =>
  simp only [sumC, List.map_cons, List.sum_cons] at ih ⊢
  rcases List.mem_cons.1 h with rfl | h
  ·omega
  ·have := ih h
   omega
theorem sumC_take {bs : List DBk} {s : Nat} : sumC (bs.take s) ≤ sumC bs := by
 induction bs generalizing s with
 | nil => simp
 | cons a bs ih =>
  cases s with
  | zero => simp [sumC]
  | succ s =>
   have := ih (s := s)
   simp only [sumC, List.take_succ_cons, List.map_cons, List.sum_cons] at this ⊢
   omega
theorem instrP_labels {ids : Ids} {has : List Nat} {d : DIn} : (instrP ids has d).2.labels = [] := by
 unfold instrP
 dsimp only
 repeat' split
 all_goals rfl
theorem codeP_len {ids : Ids} : ∀ {l : List DIn} {has : List Nat}, (codeP ids has l).2.length = l.length
 | [], _ => rfl
 | x :: l, has => by simp only [codeP, List.length_cons]; rw [codeP_len]
theorem codeP_labels {ids : Ids} : ∀ {l : List DIn} {has : List Nat}, ∀ i ∈ (codeP ids has l).2, i.labels = []
 | [], _, i, h => by simp only [codeP] at h; cases h
 | x :: l, has, i, h => by
  simp only [codeP] at h
  rcases List.mem_cons.1 h with rfl | h
  ·exact instrP_labels
  ·exact codeP_labels i h
theorem lastP2_labels {ids : Ids} {has : List Nat} {d : DBk} {i n : Nat} : (lastP2 ids has d i n).labels.length ≤ 3 := by
 unfold lastP2
 dsimp only
 repeat' split
 all_goals simp
theorem startTo_labels {d : Drf} {n : Nat} : ∀ i ∈ startTo d n, i.labels = [] := by
 intro i hi
 unfold startTo at hi
 obtain ⟨v, _, rfl⟩ := List.mem_map.1 hi
 rfl
theorem regP_len {d : Drf} : (regP d 12).length ≤ 12 := by
 unfold regP
 have := List.length_filter_le (fun i => decide (i / 2 < cntP d (i % 2))) (List.range 12)
 rwa [List.length_range] at this
theorem startTo_len {d : Drf} {n : Nat} : (startTo d n).length ≤ n := by
 unfold startTo
 rw [List.length_map]
 have := List.length_filter_le (fun i => hasAt d i && !decide (i < parP d)) (List.range n)
 rwa [List.length_range] at this
theorem makeP_len {d : Drf} : (makeP d).blocks.length = nBlk d := by simp [makeP]
theorem makeP_ok {d : Drf} (h : ∀ b ∈ d.blocks, b.code.length ≤ 1000) : ∀ b ∈ (makeP d).blocks, b.code.length ≤ 9223372036854775807 ∧ ∀ i ∈ b.code, i.labels.length ≤ 9223372036854775807 := by
 intro b hb
 simp only [makeP] at hb
 obtain ⟨i, _, rfl⟩ := List.mem_map.1 hb
 simp only [blkP]
 have hq : (d.blocks.getD i noDB).code.length ≤ 1000 := by
  by_cases hh : i < d.blocks.length
  ·rw [show d.blocks.getD i noDB = d.blocks[i] by simp [List.getD_eq_getElem?_getD, hh]]
   exact h _ (List.getElem_mem hh)
  ·rw [show d.blocks.getD i noDB = noDB by simp [List.getD_eq_getElem?_getD, show d.blocks.length ≤ i by omega]]
   simp [noDB]
 have hs := startTo_len (d := d) (n := (regP d 12).length)
 have hr := regP_len (d := d)
 refine ⟨?_, fun x hx => ?_⟩
 ·simp only [List.length_append, codeP_len, List.length_cons, List.length_nil]
  split
  ·omega
  ·simp only [List.length_nil]; omega
 ·rcases List.mem_append.1 hx with hx | hx
  ·rcases List.mem_append.1 hx with hx | hx
   ·split at hx
    ·rw [startTo_labels x hx]; simp
    ·cases hx
   ·rw [codeP_labels x hx]; simp
  ·rw [List.mem_singleton.1 hx]
   have := lastP2_labels (ids := drIds d) (has := (codeP (drIds d) (allP d) (d.blocks.getD i noDB).code).1) (d := d.blocks.getD i noDB) (i := i) (n := nBlk d)
   omega
theorem nBlk_pos {d : Drf} : 1 ≤ nBlk d := by unfold nBlk; split <;> omega
theorem nBlk_le {d : Drf} (h : d.blocks.length ≤ 9) : nBlk d ≤ 9 := by unfold nBlk; split <;> omega
end Go.AM
/- Is a draft more than is waited for? -/
namespace Go.Proofs.YtgbmneoeggdaoaaGreatDoor.X
open Go Go.AM Go.Proofs
open Nat (reduceAdd reduceLeDiff reduceEqDiff reduceSub reduceMul)
open Int (reduceToNat)
attribute [local go_sem ↓] w_skip w_lbl w_ops w_draw w_pre w_post w_alt w_seq w_cond w_block w_join w_loop w_exit w_ret w_scope w_rfunc l_nil l_cons th_n th_e th_r bk_n bk_r bk_e t_nil t_it t_call t_callg i_nil i_one i_grp s_nil s_cons c_call c_callg e_rar e_dynB e_mv e_nil e_dyn e_nilb e_frz o_mov o_bin o_eq o_un o_conv o_len o_slen o_idx o_aix o_fad o_load o_store o_boxp o_boxo o_boxm o_alloc o_allocm o_alloca o_nilarr o_build o_bslp o_bslo o_slc o_sslc o_slc3 o_sidx o_mkfn o_mkmv o_calle o_bslr o_ridx o_rload o_rapp o_vidx o_ext o_pick o_callf o_callb o_appd o_clear o_mxn o_field o_nilc o_make o_makeb o_buildm o_boxg o_mkif o_tass o_eqs o_callo o_callx k_int k_str k_bool k_grb k_grt k_some k_none k_rar k_arr k_lens k_lenf k_lenh k_lenb k_idxb k_idxs k_idxf k_idxh k_ld k_loadp k_loadr k_loade k_storer k_storee k_oin k_ois k_slcs k_slcf k_slch k_slc3s k_slc3f k_slc3h k_app2 k_apps k_appf k_apph k_cals k_cald k_cali k_cnb k_cna k_esn k_esc k_efn k_efc k_esh b_add b_sub b_mul b_quo b_rem b_and b_or b_xor b_andNot b_eql b_neq b_lss b_leq b_gtr b_geq b_shl b_shr b_seq b_sne b_slt b_sad q_bool q_str q_nil q_nilf u_not u_neg u_xor f_ret f_nor v_r v_c v_g v_reg v_ob v_set v_put v_so v_sn v_pn v_pc g_nil d_nil p_nil m_mv m_fr z_nil z_cons z_an z_ac g_cons d_cons p_cons y_mov y_bin y_eq y_un y_conv y_len y_slen y_idx y_aix y_fad y_load y_store y_boxp y_boxo y_boxm y_alloc y_alloca y_allocm y_nilarr y_build y_bslp y_bslo y_slc y_sslc y_slc3 y_sidx y_mkfn y_ext y_pick y_callf y_callb y_appd y_clear y_mxn y_field y_nilc y_make y_makeb y_buildm y_boxg y_mkif y_tass y_eqs y_callo y_mkmv y_callx y_vidx y_bslr y_ridx y_rload y_rapp y_calle nb_if
attribute [local go_sem] nbd VL_mk VL2_mk If_t If_f If_not If_and If_or If_dt If_df If_et If_ef If_ne Ck_t Ck_h Opt_s ld_a ld_c lm_a lm_c renL ren keepR renA idxM invL getObs mapOb renOb allNone putAll fzR fzO fz fzL fzOb fzB frzOk upFrom mapR resOne resA cellsOf oneA oneAL isP isPL okSt kRows kParts fillA setAt bor bor0 bor1 bor2 borC borI key0 key1 key2 keysA fillM cellsM cellM unif ptrA ifOk kPartsM getObsM allNoneM zipU scal0 scalar eqC evNil evNilF memK keyX hideM xbor scal1 scalX scalOb bndA mkMag showM lendV hideV hideR hideOb hideL hideO showL backO noneO mapA List.map_cons List.map_nil List.cons_append List.nil_append List.append_nil List.drop_zero List.drop_succ_cons List.drop_nil List.take_succ_cons List.take_zero List.take_nil List.length_cons List.length_nil List.length_map List.getElem?_map Option.map_some Option.map_none Int.toNat_natCast Int.toNat_zero Int.toNat_one Int.natCast_nonneg List.flatMap_cons List.flatMap_nil List.all_cons List.all_nil List.any_cons List.any_nil Bool.or_false Bool.false_or Bool.or_true Bool.true_or Bool.and_true Bool.true_and Bool.and_false Bool.false_and Bool.not_true Bool.not_false beq_self_eq_true nb_self all_nil List.forall_mem_cons tk_map tk_app bs_self bs_dec bq_t bq_f Bool.not_not decide_true decide_false Bool.not_not and_self and_true true_and eq_self List.reverse_cons List.reverse_nil List.getElem?_cons_zero List.getElem?_cons_succ cond_true cond_false List.set_cons_zero List.set_cons_succ Nat.zero_add Nat.add_zero if_true if_false ite_true ite_false implies_true wrap64 wrap8
set_option linter.unusedVariables false
set_option linter.unusedSimpArgs false
set_option maxRecDepth 10000
def manyP (d : Drf) : Bool := decide (9 < d.blocks.length) || decide (60 < sumC d.blocks)
theorem C5 (d : Drf) (h : sumC d.blocks ≤ 4000000000000000000) : Ctr Tryz.prog 5 [.agg (encDr d)] [] (ret [.bool (manyP d)]) := by
 have hbl : d.blocks.length ≤ 4000000000000000000 := by
  have : ∀ l : List DBk, l.length ≤ sumC l := fun l => by
   induction l with
   | nil => simp
   | cons a l ih =>
    simp only [sumC, List.map_cons, List.sum_cons, List.length_cons] at ih ⊢
    omega
  have := this d.blocks
  omega
 generalize hres : manyP d = res
 apply ctr_b A5_ok rfl (Nat.le_of_ble_eq_true rfl)
 unfold A5
 simp only [initL, Nat.reduceAdd, encDr]
 simp -implicitDefEqProofs (disch := omega) only [↓reduceIte, go_sem, reduceToNat, reduceAdd, reduceLeDiff, reduceEqDiff, reduceSub, reduceMul, reduceCtorEq]
 refine loopL (σ := Nat) (fun s => ⟨[(1, .rp [.int .u8 d.g, .int .u8 d.x, .int .u8 d.p, .sl (d.blocks.map encDB)]), (3, .int .i64 (sumC (d.blocks.take s) : Int)), (4, .int .i64 (s : Int))], []⟩) (fun s => s ≤ d.blocks.length) (fun s => d.blocks.length - s) 0 (by simp -implicitDefEqProofs (disch := omega) only [↓reduceIte, go_sem, reduceToNat, reduceAdd, reduceLeDiff, reduceEqDiff, reduceSub, reduceMul, reduceCtorEq]; rfl) (Nat.zero_le _) ?_
 intro s hs
 have htk := sumC_take (bs := d.blocks) (s := s)
 have hend : s = d.blocks.length → sumC (d.blocks.take s) = sumC d.blocks := fun e => by rw [e, List.take_length]
 have hnx : ∀ b, d.blocks[s]? = some b → sumC (d.blocks.take (s + 1)) = sumC (d.blocks.take s) + (1 + b.code.length) ∧ b.code.length + 1 ≤ sumC d.blocks := fun b hb => ⟨by rw [snoc_take hb, sumC_snoc], sumC_mem (List.mem_of_getElem? hb)⟩
 generalize sumC (d.blocks.take s) = q at htk hend hnx ⊢
 simp -implicitDefEqProofs (disch := omega) only [↓reduceIte, go_sem, reduceToNat, reduceAdd, reduceLeDiff, reduceEqDiff, reduceSub, reduceMul, reduceCtorEq]
 refine ifD (fun c => ?_) (fun c => ?_)
 ·have hb : d.blocks[s]? = some (d.blocks.getD s noDB) := by simp [List.getD_eq_getElem?_getD, show s < d.blocks.length by omega]
  have hb2 : Option.map encDB d.blocks[s]? = some (encDB (d.blocks.getD s noDB)) := by rw [hb]; rfl
  have hq := (hnx _ hb).1
  have hq2 := (hnx _ hb).2
  generalize d.blocks.getD s noDB = b at hb hb2 hq hq2
  simp -implicitDefEqProofs (disch := omega) only [↓reduceIte, go_sem, reduceToNat, reduceAdd, reduceLeDiff, reduceEqDiff, reduceSub, reduceMul, reduceCtorEq, hb, hb2, encDB]
  exact ⟨s + 1, by rw [hq]; simp; omega, by omega, by omega⟩
 ·have hq := hend (by omega)
  simp -implicitDefEqProofs (disch := omega) only [↓reduceIte, go_sem, reduceToNat, reduceAdd, reduceLeDiff, reduceEqDiff, reduceSub, reduceMul, reduceCtorEq]
  refine ifD (fun c2 => ?_) (fun c2 => ?_)
  ·simp -implicitDefEqProofs (disch := omega) only [↓reduceIte, go_sem, reduceToNat, reduceAdd, reduceLeDiff, reduceEqDiff, reduceSub, reduceMul, reduceCtorEq]
   exact ⟨by rw [← hres, manyP, decide_eq_true (show 9 < d.blocks.length by omega)]; rfl, rfl⟩
  ·simp -implicitDefEqProofs (disch := omega) only [↓reduceIte, go_sem, reduceToNat, reduceAdd, reduceLeDiff, reduceEqDiff, reduceSub, reduceMul, reduceCtorEq]
   refine ⟨?_, rfl⟩
   rw [← hres, manyP, decide_eq_false (show ¬ 9 < d.blocks.length by omega), ← hq, Bool.false_or]
   congr 2
   rw [Bool.eq_iff_iff, decide_eq_true_iff, decide_eq_true_iff]
   omega
/- Many, for drafts of any lengths that a row lets in. -/
theorem manyBig (d : Drf) (h9 : 9 < d.blocks.length) (hl : d.blocks.length ≤ 140737488355328) : Ctr Tryz.prog 5 [.agg (encDr d)] [] (ret [.bool true]) := by
 apply ctr_b A5_ok rfl (Nat.le_of_ble_eq_true rfl)
 unfold A5
 simp only [initL, Nat.reduceAdd, encDr]
 simp -implicitDefEqProofs (disch := omega) only [↓reduceIte, go_sem, reduceToNat, reduceAdd, reduceLeDiff, reduceEqDiff, reduceSub, reduceMul, reduceCtorEq]
 refine loopL (σ := Int × Nat) (fun s => ⟨[(1, .rp [.int .u8 d.g, .int .u8 d.x, .int .u8 d.p, .sl (d.blocks.map encDB)]), (3, .int .i64 s.1), (4, .int .i64 (s.2 : Int))], []⟩) (fun s => s.2 ≤ d.blocks.length) (fun s => d.blocks.length - s.2) (_, 0) (by simp -implicitDefEqProofs (disch := omega) only [↓reduceIte, go_sem, reduceToNat, reduceAdd, reduceLeDiff, reduceEqDiff, reduceSub, reduceMul, reduceCtorEq]; rfl) (Nat.zero_le _) ?_
 rintro ⟨q, s⟩ hs
 have hs : s ≤ d.blocks.length := hs
 simp -implicitDefEqProofs (disch := omega) only [↓reduceIte, go_sem, reduceToNat, reduceAdd, reduceLeDiff, reduceEqDiff, reduceSub, reduceMul, reduceCtorEq]
 refine ifD (fun c => ?_) (fun c => ?_)
 ·have hb : d.blocks[s]? = some (d.blocks.getD s noDB) := by simp [List.getD_eq_getElem?_getD, show s < d.blocks.length by omega]
  have hb2 : Option.map encDB d.blocks[s]? = some (encDB (d.blocks.getD s noDB)) := by rw [hb]; rfl
  generalize d.blocks.getD s noDB = b at hb hb2
  simp -implicitDefEqProofs (disch := omega) only [↓reduceIte, go_sem, reduceToNat, reduceAdd, reduceLeDiff, reduceEqDiff, reduceSub, reduceMul, reduceCtorEq, hb, hb2, encDB]
  exact ⟨(_, s + 1), rfl, by show s + 1 ≤ d.blocks.length; omega, by show d.blocks.length - (s + 1) < d.blocks.length - s; omega⟩
 ·simp -implicitDefEqProofs (disch := omega) only [↓reduceIte, go_sem, reduceToNat, reduceAdd, reduceLeDiff, reduceEqDiff, reduceSub, reduceMul, reduceCtorEq]
  exact ⟨rfl, rfl⟩
theorem manyC (d : Drf) (hl : d.blocks.length ≤ 140737488355328) (hc : ∀ b ∈ d.blocks, b.code.length ≤ 140737488355328) : Ctr Tryz.prog 5 [.agg (encDr d)] [] (ret [.bool (manyP d)]) := by
 by_cases h : 9 < d.blocks.length
 ·have := manyBig d h hl
  have e : manyP d = true := by simp [manyP, h]
  rw [e]
  exact this
 ·refine C5 d ?_
  have : ∀ l : List DBk, (∀ b ∈ l, b.code.length ≤ 140737488355328) → sumC l ≤ 140737488355329 * l.length := fun l => by
   induction l with
   | nil => intro _; simp [sumC]
   | cons a l ih =>
    intro hb
    have := ih fun b hb' => hb b (List.mem_cons_of_mem _ hb')
    have := hb a List.mem_cons_self
    simp only [sumC, List.map_cons, List.sum_cons, List.length_cons] at this ⊢
    simp only [sumC] at *
    omega
  have h1 := this d.blocks hc
  have h2 : 140737488355329 * d.blocks.length ≤ 140737488355329 * 9 := Nat.mul_le_mul_left _ (by omega)
  omega
theorem many_no {d : Drf} (h : manyP d = false) : d.blocks.length ≤ 9 ∧ ∀ b ∈ d.blocks, b.code.length ≤ 60 := by
 simp only [manyP, Bool.or_eq_false_iff, decide_eq_false_iff_not] at h
 refine ⟨by omega, fun b hb => ?_⟩
 have := sumC_mem hb
 omega
/- What an argument that is a draft is. -/
open Go Go.AM Go.RowKit
theorem u8wf {n : Int} (h : (Lit.int .u8 n).wf = true) : By n := by
 simp only [Lit.wf, IntKind.min, IntKind.max, IntKind.signed, IntKind.bits, Bool.and_eq_true, decide_eq_true_eq] at h
 exact ⟨by simpa using h.1, by have := h.2; simp at this; omega⟩
theorem i16wf {n : Int} (h : (Lit.int .i16 n).wf = true) : -32768 ≤ n ∧ n < 32768 := by
 simp only [Lit.wf, IntKind.min, IntKind.max, IntKind.signed, IntKind.bits, Bool.and_eq_true, decide_eq_true_eq] at h
 exact ⟨by simpa using h.1, by have := h.2; simp at this; omega⟩
end Go.Proofs.YtgbmneoeggdaoaaGreatDoor.X
