import Derived.Test.YtapfnhhedieebaaM29A
namespace Go.Proofs.Ytapfnhhedieebaa.X
open Go Go.AM Go.Proofs
attribute [local go_sem ↓] w_skip w_lbl w_ops w_draw w_pre w_post w_seq w_cond w_block w_loop w_exit w_ret w_scope th_n th_e th_r bk_n bk_r bk_e t_nil t_it t_call i_nil i_one i_grp s_nil s_cons c_call e_mv e_frz o_mov o_bin o_eq o_un o_conv o_len o_slen o_idx o_aix o_fad o_load o_store o_boxp o_boxo o_boxm o_alloc o_alloca o_nilarr o_build o_bslp o_bslo o_slc o_sslc o_slc3 o_sidx o_mkfn o_ext o_pick o_callf o_callb o_appd o_clear o_mxn o_field o_nilc o_make k_int k_str k_bool k_grb k_grt k_some k_none k_arr k_lens k_lenf k_lenh k_idxs k_idxf k_idxh k_ld k_loadp k_loadr k_loade k_storer k_storee k_oin k_ois k_slcs k_slcf k_slch k_slc3s k_slc3f k_slc3h k_app2 k_apps k_appf k_apph k_cals k_cald b_add b_sub b_mul b_quo b_rem b_and b_or b_xor b_andNot b_eql b_neq b_lss b_leq b_gtr b_geq b_shl b_shr b_seq b_sne b_slt b_sad q_bool q_str q_nil q_nilf u_not u_neg u_xor f_ret f_nor v_r v_c v_reg v_ob v_set v_put v_so v_sn v_pn v_pc g_nil d_nil p_nil m_mv m_fr z_nil z_cons z_an z_ac g_cons d_cons p_cons y_mov y_bin y_eq y_un y_conv y_len y_slen y_idx y_aix y_fad y_load y_store y_boxp y_boxo y_boxm y_alloc y_alloca y_nilarr y_build y_bslp y_bslo y_slc y_sslc y_slc3 y_sidx y_mkfn y_ext y_pick y_callf y_callb y_appd y_clear y_mxn y_field y_nilc y_make nb_if
attribute [local go_sem] VL_mk VL2_mk If_t If_f If_not If_and If_or If_dt If_df If_et If_ef If_ne Ck_t Ck_h Opt_s ld_a ld_c renL ren keepR renA idxM invL getObs mapOb renOb allNone putAll fzR fzO fz fzL fzOb frzOk upFrom mapR resOne resA cellsOf oneA oneAL isP isPL okSt kRows kParts fillA setAt bor bor0 key0 keysA scalar eqC evNil evNilF List.map_cons List.map_nil List.cons_append List.nil_append List.append_nil List.drop_zero List.drop_succ_cons List.drop_nil List.take_succ_cons List.take_zero List.take_nil List.length_cons List.length_nil List.length_map List.getElem?_map Option.map_some Option.map_none Int.toNat_natCast Int.toNat_zero Int.toNat_one Int.natCast_nonneg List.flatMap_cons List.flatMap_nil List.all_cons List.all_nil Bool.and_true Bool.true_and Bool.and_false Bool.false_and Bool.not_true Bool.not_false beq_self_eq_true nb_self all_nil List.forall_mem_cons tk_map tk_app bs_self bs_dec bq_t bq_f Bool.not_not decide_true decide_false Bool.not_not and_self and_true true_and eq_self List.reverse_cons List.reverse_nil List.getElem?_cons_zero List.getElem?_cons_succ cond_true cond_false List.set_cons_zero List.set_cons_succ Nat.zero_add Nat.add_zero if_true if_false ite_true ite_false implies_true wrap64 wrap8
set_option linter.unusedVariables false
set_option linter.unusedSimpArgs false
set_option maxRecDepth 10000
structure Loc where
  kind : Int
  cls : Int
  n : Int
  deriving DecidableEq
structure Move where
  v : Int
  fr : Loc
  to : Loc
  deriving DecidableEq
structure Opd where
  kind : Int
  cls : Int
  n : Int
  tag : Int
  deriving DecidableEq
def encL (l : Loc) : List AV := [.int .i64 l.kind, .int .i64 l.cls, .int .i64 l.n]
def encM (m : Move) : List AV := [.int .i64 m.v, .int .i64 m.fr.kind, .int .i64 m.fr.cls, .int .i64 m.fr.n, .int .i64 m.to.kind, .int .i64 m.to.cls, .int .i64 m.to.n]
def encO (o : Opd) : List AV := [.int .i64 o.kind, .int .i64 o.cls, .int .i64 o.n, .int .i64 o.tag]
def put (l : Loc) (v : Int) : Opd := ⟨l.kind, l.cls, l.n, v⟩
theorem C23 (l : Loc) (v : Int) : Ctr Try.prog 23 [.agg (encL l), .int .i64 v] [] (ret [.agg (encO (put l v))]) := by
  apply ctr_b A23_ok rfl (Nat.le_of_ble_eq_true rfl)
  unfold A23
  simp only [initL, Nat.reduceAdd]
  simp (config := {maxSteps := 2000000, implicitDefEqProofs := false}) (disch := omega) only [↓reduceIte, go_sem, Int.reduceToNat, Nat.reduceAdd, Nat.reduceLeDiff, Nat.reduceEqDiff, Nat.reduceSub, Nat.reduceMul, reduceCtorEq, encL]
  exact ⟨rfl, rfl⟩
theorem C24 (l : Loc) (v : Int) : Ctr Try.prog 24 [.agg (encL l), .int .i64 v] [] (ret [.agg (encO (put l v))]) := by
  apply ctr_b A24_ok rfl (Nat.le_of_ble_eq_true rfl)
  unfold A24
  simp only [initL, Nat.reduceAdd]
  simp (config := {maxSteps := 2000000, implicitDefEqProofs := false}) (disch := omega) only [↓reduceIte, go_sem, Int.reduceToNat, Nat.reduceAdd, Nat.reduceLeDiff, Nat.reduceEqDiff, Nat.reduceSub, Nat.reduceMul, reduceCtorEq, encL]
  exact ⟨rfl, rfl⟩
structure Ins where
  op : Int
  dst : Opd
  args : List Opd
  deriving DecidableEq
def encI (i : Ins) : List AV := [.int .i64 i.op, .int .i64 i.dst.kind, .int .i64 i.dst.cls, .int .i64 i.dst.n, .int .i64 i.dst.tag, .sl (i.args.map encO), .str .empty, .int .i64 0, .sl [], .sl []]
def one (m : Move) : Ins := ⟨if m.to.kind = 3 then 25 else if m.fr.kind = 3 then 26 else 24, put m.to m.v, [put m.fr m.v]⟩
theorem C9 (m : Move) : Ctr Try.prog 9 [.agg (encM m)] [] (ret [.agg (encI (one m))]) := by
  apply ctr_b A9_ok rfl (Nat.le_of_ble_eq_true rfl)
  unfold A9
  simp only [initL, Nat.reduceAdd]
  simp (config := {maxSteps := 2000000, implicitDefEqProofs := false}) (disch := omega) only [↓reduceIte, go_sem, Int.reduceToNat, Nat.reduceAdd, Nat.reduceLeDiff, Nat.reduceEqDiff, Nat.reduceSub, Nat.reduceMul, reduceCtorEq, encM]
  refine callL (C23 m.to m.v) ?_
  simp (config := {maxSteps := 2000000, implicitDefEqProofs := false}) (disch := omega) only [↓reduceIte, go_sem, Int.reduceToNat, Nat.reduceAdd, Nat.reduceLeDiff, Nat.reduceEqDiff, Nat.reduceSub, Nat.reduceMul, reduceCtorEq, encM]
  refine callL (C23 m.fr m.v) ?_
  simp (config := {maxSteps := 2000000, implicitDefEqProofs := false}) (disch := omega) only [↓reduceIte, go_sem, Int.reduceToNat, Nat.reduceAdd, Nat.reduceLeDiff, Nat.reduceEqDiff, Nat.reduceSub, Nat.reduceMul, reduceCtorEq, encM, encO]
  refine accL (by kernel_rfl) ?_
  simp (config := {maxSteps := 2000000, implicitDefEqProofs := false}) (disch := omega) only [↓reduceIte, go_sem, Int.reduceToNat, Nat.reduceAdd, Nat.reduceLeDiff, Nat.reduceEqDiff, Nat.reduceSub, Nat.reduceMul, reduceCtorEq]
  refine ifE (fun h => ?_) (fun h => ?_)
  · simp (config := {maxSteps := 2000000, implicitDefEqProofs := false}) (disch := omega) only [↓reduceIte, go_sem, Int.reduceToNat, Nat.reduceAdd, Nat.reduceLeDiff, Nat.reduceEqDiff, Nat.reduceSub, Nat.reduceMul, reduceCtorEq]
    simp [ret, one, h, encI, encO]
  · simp (config := {maxSteps := 2000000, implicitDefEqProofs := false}) (disch := omega) only [↓reduceIte, go_sem, Int.reduceToNat, Nat.reduceAdd, Nat.reduceLeDiff, Nat.reduceEqDiff, Nat.reduceSub, Nat.reduceMul, reduceCtorEq]
    refine ifE (fun h' => ?_) (fun h' => ?_)
    · simp (config := {maxSteps := 2000000, implicitDefEqProofs := false}) (disch := omega) only [↓reduceIte, go_sem, Int.reduceToNat, Nat.reduceAdd, Nat.reduceLeDiff, Nat.reduceEqDiff, Nat.reduceSub, Nat.reduceMul, reduceCtorEq]
      simp [ret, one, h, h', encI, encO]
    · simp (config := {maxSteps := 2000000, implicitDefEqProofs := false}) (disch := omega) only [↓reduceIte, go_sem, Int.reduceToNat, Nat.reduceAdd, Nat.reduceLeDiff, Nat.reduceEqDiff, Nat.reduceSub, Nat.reduceMul, reduceCtorEq]
      simp [ret, one, h, h', encI, encO]
theorem eqO (x y : Opd) : (x.kind == y.kind && (x.cls == y.cls && (x.n == y.n && x.tag == y.tag))) = decide (x = y) := by
  rw [Bool.eq_iff_iff]
  cases x; cases y; simp
theorem C20 (x y : List Opd) (hx : x.length < 1000000000000) : Ctr Try.prog 20 [.sl (x.map encO), .sl (y.map encO)] [] (ret [.bool (decide (x = y))]) := by
  apply ctr_b A20_ok rfl (Nat.le_of_ble_eq_true rfl)
  unfold A20
  simp only [initL, Nat.reduceAdd]
  simp (config := {maxSteps := 2000000, implicitDefEqProofs := false}) (disch := omega) only [↓reduceIte, go_sem, Int.reduceToNat, Nat.reduceAdd, Nat.reduceLeDiff, Nat.reduceEqDiff, Nat.reduceSub, Nat.reduceMul, reduceCtorEq]
  refine ifE (fun h => ?_) (fun h => ?_)
  · have h : x.length = y.length := by omega
    simp (config := {maxSteps := 2000000, implicitDefEqProofs := false}) (disch := omega) only [↓reduceIte, go_sem, Int.reduceToNat, Nat.reduceAdd, Nat.reduceLeDiff, Nat.reduceEqDiff, Nat.reduceSub, Nat.reduceMul, reduceCtorEq]
    refine loopL (fun (k : Nat) => ⟨[(0, .sl (x.map encO)), (1, .sl (y.map encO)), (5, .int .i64 k)], []⟩) (fun k => k ≤ x.length ∧ x.take k = y.take k) (fun k => x.length - k) 0 (by simp (config := {maxSteps := 2000000, implicitDefEqProofs := false}) (disch := omega) only [↓reduceIte, go_sem, Int.reduceToNat, Nat.reduceAdd, Nat.reduceLeDiff, Nat.reduceEqDiff, Nat.reduceSub, Nat.reduceMul, reduceCtorEq]; rfl) ⟨by omega, by simp⟩ ?_
    rintro k ⟨hk, he⟩
    simp (config := {maxSteps := 2000000, implicitDefEqProofs := false}) (disch := omega) only [↓reduceIte, go_sem, Int.reduceToNat, Nat.reduceAdd, Nat.reduceLeDiff, Nat.reduceEqDiff, Nat.reduceSub, Nat.reduceMul, reduceCtorEq]
    refine ifD (fun h1 => ?_) (fun h1 => ?_)
    · obtain ⟨a, ha⟩ : ∃ a, x[k]? = some a := ⟨_, List.getElem?_eq_getElem (by omega)⟩
      obtain ⟨b, hb⟩ : ∃ b, y[k]? = some b := ⟨_, List.getElem?_eq_getElem (by omega)⟩
      simp (config := {maxSteps := 2000000, implicitDefEqProofs := false}) (disch := omega) only [↓reduceIte, go_sem, Int.reduceToNat, Nat.reduceAdd, Nat.reduceLeDiff, Nat.reduceEqDiff, Nat.reduceSub, Nat.reduceMul, reduceCtorEq, ha, hb, encO, Int.natCast_nonneg, eqO]
      refine accL (by kernel_rfl) ?_
      simp (config := {maxSteps := 2000000, implicitDefEqProofs := false}) (disch := omega) only [↓reduceIte, go_sem, Int.reduceToNat, Nat.reduceAdd, Nat.reduceLeDiff, Nat.reduceEqDiff, Nat.reduceSub, Nat.reduceMul, reduceCtorEq]
      refine ifD (fun hab => ?_) (fun hab => ?_)
      · simp (config := {maxSteps := 2000000, implicitDefEqProofs := false}) (disch := omega) only [↓reduceIte, go_sem, Int.reduceToNat, Nat.reduceAdd, Nat.reduceLeDiff, Nat.reduceEqDiff, Nat.reduceSub, Nat.reduceMul, reduceCtorEq]
        refine ⟨k + 1, by simp, ⟨by omega, ?_⟩, by omega⟩
        rw [List.take_add_one, List.take_add_one, ha, hb, he, hab]
      · simp (config := {maxSteps := 2000000, implicitDefEqProofs := false}) (disch := omega) only [↓reduceIte, go_sem, Int.reduceToNat, Nat.reduceAdd, Nat.reduceLeDiff, Nat.reduceEqDiff, Nat.reduceSub, Nat.reduceMul, reduceCtorEq]
        refine ⟨?_, rfl⟩
        have : x ≠ y := fun e => by subst e; rw [ha] at hb; exact hab (Option.some.inj hb)
        simp [this]
    · simp (config := {maxSteps := 2000000, implicitDefEqProofs := false}) (disch := omega) only [↓reduceIte, go_sem, Int.reduceToNat, Nat.reduceAdd, Nat.reduceLeDiff, Nat.reduceEqDiff, Nat.reduceSub, Nat.reduceMul, reduceCtorEq]
      refine ⟨?_, rfl⟩
      have : k = x.length := by omega
      subst this
      rw [List.take_length, h, List.take_length] at he
      simp [he]
  · simp (config := {maxSteps := 2000000, implicitDefEqProofs := false}) (disch := omega) only [↓reduceIte, go_sem, Int.reduceToNat, Nat.reduceAdd, Nat.reduceLeDiff, Nat.reduceEqDiff, Nat.reduceSub, Nat.reduceMul, reduceCtorEq]
    have : x ≠ y := fun e => h (by rw [e])
    simp [ret, this]

theorem C10 (m : Move) : Ctr Try.prog 10 [.agg (encM m)] [] (ret [.agg (encI (one m))]) := by
  apply ctr_b A10_ok rfl (Nat.le_of_ble_eq_true rfl)
  unfold A10
  simp only [initL, Nat.reduceAdd]
  simp (config := {maxSteps := 2000000, implicitDefEqProofs := false}) (disch := omega) only [↓reduceIte, go_sem, Int.reduceToNat, Nat.reduceAdd, Nat.reduceLeDiff, Nat.reduceEqDiff, Nat.reduceSub, Nat.reduceMul, reduceCtorEq, encM]
  refine ifE (fun h => ?_) (fun h => ?_)
  · simp (config := {maxSteps := 2000000, implicitDefEqProofs := false}) (disch := omega) only [↓reduceIte, go_sem, Int.reduceToNat, Nat.reduceAdd, Nat.reduceLeDiff, Nat.reduceEqDiff, Nat.reduceSub, Nat.reduceMul, reduceCtorEq]
    refine ifE (fun h' => ?_) (fun h' => ?_)
    all_goals
      simp (config := {maxSteps := 2000000, implicitDefEqProofs := false}) (disch := omega) only [↓reduceIte, go_sem, Int.reduceToNat, Nat.reduceAdd, Nat.reduceLeDiff, Nat.reduceEqDiff, Nat.reduceSub, Nat.reduceMul, reduceCtorEq]
      refine callL (C24 m.to m.v) ?_
      simp (config := {maxSteps := 2000000, implicitDefEqProofs := false}) (disch := omega) only [↓reduceIte, go_sem, Int.reduceToNat, Nat.reduceAdd, Nat.reduceLeDiff, Nat.reduceEqDiff, Nat.reduceSub, Nat.reduceMul, reduceCtorEq]
      refine callL (C24 m.fr m.v) ?_
      simp (config := {maxSteps := 2000000, implicitDefEqProofs := false}) (disch := omega) only [↓reduceIte, go_sem, Int.reduceToNat, Nat.reduceAdd, Nat.reduceLeDiff, Nat.reduceEqDiff, Nat.reduceSub, Nat.reduceMul, reduceCtorEq, encO]
      refine accL (by kernel_rfl) ?_
      simp (config := {maxSteps := 2000000, implicitDefEqProofs := false}) (disch := omega) only [↓reduceIte, go_sem, Int.reduceToNat, Nat.reduceAdd, Nat.reduceLeDiff, Nat.reduceEqDiff, Nat.reduceSub, Nat.reduceMul, reduceCtorEq]
      simp [ret, one, h, h', encI, encO]
  · simp (config := {maxSteps := 2000000, implicitDefEqProofs := false}) (disch := omega) only [↓reduceIte, go_sem, Int.reduceToNat, Nat.reduceAdd, Nat.reduceLeDiff, Nat.reduceEqDiff, Nat.reduceSub, Nat.reduceMul, reduceCtorEq]
    refine ifE (fun h' => ?_) (fun h' => ?_)
    all_goals
      simp (config := {maxSteps := 2000000, implicitDefEqProofs := false}) (disch := omega) only [↓reduceIte, go_sem, Int.reduceToNat, Nat.reduceAdd, Nat.reduceLeDiff, Nat.reduceEqDiff, Nat.reduceSub, Nat.reduceMul, reduceCtorEq]
      refine callL (C24 m.to m.v) ?_
      simp (config := {maxSteps := 2000000, implicitDefEqProofs := false}) (disch := omega) only [↓reduceIte, go_sem, Int.reduceToNat, Nat.reduceAdd, Nat.reduceLeDiff, Nat.reduceEqDiff, Nat.reduceSub, Nat.reduceMul, reduceCtorEq]
      refine callL (C24 m.fr m.v) ?_
      simp (config := {maxSteps := 2000000, implicitDefEqProofs := false}) (disch := omega) only [↓reduceIte, go_sem, Int.reduceToNat, Nat.reduceAdd, Nat.reduceLeDiff, Nat.reduceEqDiff, Nat.reduceSub, Nat.reduceMul, reduceCtorEq, encO]
      refine accL (by kernel_rfl) ?_
      simp (config := {maxSteps := 2000000, implicitDefEqProofs := false}) (disch := omega) only [↓reduceIte, go_sem, Int.reduceToNat, Nat.reduceAdd, Nat.reduceLeDiff, Nat.reduceEqDiff, Nat.reduceSub, Nat.reduceMul, reduceCtorEq]
      simp [ret, one, h, h', encI, encO]
theorem C21 : Ctr Try.prog 21 [.sl [], .sl []] [] (ret [.bool true]) := by
  apply ctr_b A21_ok rfl (Nat.le_of_ble_eq_true rfl)
  unfold A21
  simp only [initL, Nat.reduceAdd]
  simp (config := {maxSteps := 2000000, implicitDefEqProofs := false}) (disch := omega) only [↓reduceIte, go_sem, Int.reduceToNat, Nat.reduceAdd, Nat.reduceLeDiff, Nat.reduceEqDiff, Nat.reduceSub, Nat.reduceMul, reduceCtorEq]
  refine loopL (fun (k : Unit) => ⟨[(0, .sl []), (1, .sl []), (5, .int .i64 0)], []⟩) (fun k => True) (fun k => 0) () (by simp (config := {maxSteps := 2000000, implicitDefEqProofs := false}) (disch := omega) only [↓reduceIte, go_sem, Int.reduceToNat, Nat.reduceAdd, Nat.reduceLeDiff, Nat.reduceEqDiff, Nat.reduceSub, Nat.reduceMul, reduceCtorEq]) trivial ?_
  rintro k -
  simp (config := {maxSteps := 2000000, implicitDefEqProofs := false}) (disch := omega) only [↓reduceIte, go_sem, Int.reduceToNat, Nat.reduceAdd, Nat.reduceLeDiff, Nat.reduceEqDiff, Nat.reduceSub, Nat.reduceMul, reduceCtorEq]
  exact ⟨rfl, rfl⟩
theorem C22 : Ctr Try.prog 22 [.sl [], .sl []] [] (ret [.bool true]) := by
  apply ctr_b A22_ok rfl (Nat.le_of_ble_eq_true rfl)
  unfold A22
  simp only [initL, Nat.reduceAdd]
  simp (config := {maxSteps := 2000000, implicitDefEqProofs := false}) (disch := omega) only [↓reduceIte, go_sem, Int.reduceToNat, Nat.reduceAdd, Nat.reduceLeDiff, Nat.reduceEqDiff, Nat.reduceSub, Nat.reduceMul, reduceCtorEq]
  refine loopL (fun (k : Unit) => ⟨[(0, .sl []), (1, .sl []), (5, .int .i64 0)], []⟩) (fun k => True) (fun k => 0) () (by simp (config := {maxSteps := 2000000, implicitDefEqProofs := false}) (disch := omega) only [↓reduceIte, go_sem, Int.reduceToNat, Nat.reduceAdd, Nat.reduceLeDiff, Nat.reduceEqDiff, Nat.reduceSub, Nat.reduceMul, reduceCtorEq]) trivial ?_
  rintro k -
  simp (config := {maxSteps := 2000000, implicitDefEqProofs := false}) (disch := omega) only [↓reduceIte, go_sem, Int.reduceToNat, Nat.reduceAdd, Nat.reduceLeDiff, Nat.reduceEqDiff, Nat.reduceSub, Nat.reduceMul, reduceCtorEq]
  exact ⟨rfl, rfl⟩
theorem C8 (a b : Ins) (ha : a.args.length < 1000000000000) : Ctr Try.prog 8 [.agg (encI a), .agg (encI b)] [] (ret [.bool (decide (a = b))]) := by
  apply ctr_b A8_ok rfl (Nat.le_of_ble_eq_true rfl)
  unfold A8
  simp only [initL, Nat.reduceAdd]
  simp (config := {maxSteps := 2000000, implicitDefEqProofs := false}) (disch := omega) only [↓reduceIte, go_sem, Int.reduceToNat, Nat.reduceAdd, Nat.reduceLeDiff, Nat.reduceEqDiff, Nat.reduceSub, Nat.reduceMul, reduceCtorEq, encI]
  refine ifE (fun h => ?_) (fun h => ?_)
  · simp (config := {maxSteps := 2000000, implicitDefEqProofs := false}) (disch := omega) only [↓reduceIte, go_sem, Int.reduceToNat, Nat.reduceAdd, Nat.reduceLeDiff, Nat.reduceEqDiff, Nat.reduceSub, Nat.reduceMul, reduceCtorEq, eqO]
    refine ifD (fun h2 => ?_) (fun h2 => ?_)
    · simp (config := {maxSteps := 2000000, implicitDefEqProofs := false}) (disch := omega) only [↓reduceIte, go_sem, Int.reduceToNat, Nat.reduceAdd, Nat.reduceLeDiff, Nat.reduceEqDiff, Nat.reduceSub, Nat.reduceMul, reduceCtorEq]
      refine callL (C20 a.args b.args ha) ?_
      simp (config := {maxSteps := 2000000, implicitDefEqProofs := false}) (disch := omega) only [↓reduceIte, go_sem, Int.reduceToNat, Nat.reduceAdd, Nat.reduceLeDiff, Nat.reduceEqDiff, Nat.reduceSub, Nat.reduceMul, reduceCtorEq]
      refine ifD (fun h3 => ?_) (fun h3 => ?_)
      · simp (config := {maxSteps := 2000000, implicitDefEqProofs := false}) (disch := omega) only [↓reduceIte, go_sem, Int.reduceToNat, Nat.reduceAdd, Nat.reduceLeDiff, Nat.reduceEqDiff, Nat.reduceSub, Nat.reduceMul, reduceCtorEq]
        refine callL C21 ?_
        simp (config := {maxSteps := 2000000, implicitDefEqProofs := false}) (disch := omega) only [↓reduceIte, go_sem, Int.reduceToNat, Nat.reduceAdd, Nat.reduceLeDiff, Nat.reduceEqDiff, Nat.reduceSub, Nat.reduceMul, reduceCtorEq]
        refine callL C22 ?_
        simp (config := {maxSteps := 2000000, implicitDefEqProofs := false}) (disch := omega) only [↓reduceIte, go_sem, Int.reduceToNat, Nat.reduceAdd, Nat.reduceLeDiff, Nat.reduceEqDiff, Nat.reduceSub, Nat.reduceMul, reduceCtorEq]
        cases a; cases b
        simp_all [ret]
      · simp (config := {maxSteps := 2000000, implicitDefEqProofs := false}) (disch := omega) only [↓reduceIte, go_sem, Int.reduceToNat, Nat.reduceAdd, Nat.reduceLeDiff, Nat.reduceEqDiff, Nat.reduceSub, Nat.reduceMul, reduceCtorEq]
        cases a; cases b
        simp_all [ret]
    · simp (config := {maxSteps := 2000000, implicitDefEqProofs := false}) (disch := omega) only [↓reduceIte, go_sem, Int.reduceToNat, Nat.reduceAdd, Nat.reduceLeDiff, Nat.reduceEqDiff, Nat.reduceSub, Nat.reduceMul, reduceCtorEq]
      cases a; cases b
      simp_all [ret]
  · simp (config := {maxSteps := 2000000, implicitDefEqProofs := false}) (disch := omega) only [↓reduceIte, go_sem, Int.reduceToNat, Nat.reduceAdd, Nat.reduceLeDiff, Nat.reduceEqDiff, Nat.reduceSub, Nat.reduceMul, reduceCtorEq]
    cases a; cases b
    simp_all [ret]
theorem C11 (x y : List Ins) (hx : x.length < 1000000000000) (hl : ∀ a ∈ x, a.args.length < 1000000000000) : Ctr Try.prog 11 [.sl (x.map encI), .sl (y.map encI)] [] (ret [.bool (decide (x = y))]) := by
  apply ctr_b A11_ok rfl (Nat.le_of_ble_eq_true rfl)
  unfold A11
  simp only [initL, Nat.reduceAdd]
  simp (config := {maxSteps := 2000000, implicitDefEqProofs := false}) (disch := omega) only [↓reduceIte, go_sem, Int.reduceToNat, Nat.reduceAdd, Nat.reduceLeDiff, Nat.reduceEqDiff, Nat.reduceSub, Nat.reduceMul, reduceCtorEq]
  refine ifE (fun h => ?_) (fun h => ?_)
  · have h : x.length = y.length := by omega
    simp (config := {maxSteps := 2000000, implicitDefEqProofs := false}) (disch := omega) only [↓reduceIte, go_sem, Int.reduceToNat, Nat.reduceAdd, Nat.reduceLeDiff, Nat.reduceEqDiff, Nat.reduceSub, Nat.reduceMul, reduceCtorEq]
    refine loopL (fun (k : Nat) => ⟨[(0, .sl (x.map encI)), (1, .sl (y.map encI)), (5, .int .i64 k)], []⟩) (fun k => k ≤ x.length ∧ x.take k = y.take k) (fun k => x.length - k) 0 (by simp (config := {maxSteps := 2000000, implicitDefEqProofs := false}) (disch := omega) only [↓reduceIte, go_sem, Int.reduceToNat, Nat.reduceAdd, Nat.reduceLeDiff, Nat.reduceEqDiff, Nat.reduceSub, Nat.reduceMul, reduceCtorEq]; rfl) ⟨by omega, by simp⟩ ?_
    rintro k ⟨hk, he⟩
    simp (config := {maxSteps := 2000000, implicitDefEqProofs := false}) (disch := omega) only [↓reduceIte, go_sem, Int.reduceToNat, Nat.reduceAdd, Nat.reduceLeDiff, Nat.reduceEqDiff, Nat.reduceSub, Nat.reduceMul, reduceCtorEq]
    refine ifD (fun h1 => ?_) (fun h1 => ?_)
    · obtain ⟨a, ha⟩ : ∃ a, x[k]? = some a := ⟨_, List.getElem?_eq_getElem (by omega)⟩
      obtain ⟨b, hb⟩ : ∃ b, y[k]? = some b := ⟨_, List.getElem?_eq_getElem (by omega)⟩
      simp (config := {maxSteps := 2000000, implicitDefEqProofs := false}) (disch := omega) only [↓reduceIte, go_sem, Int.reduceToNat, Nat.reduceAdd, Nat.reduceLeDiff, Nat.reduceEqDiff, Nat.reduceSub, Nat.reduceMul, reduceCtorEq, ha, hb, encI, Int.natCast_nonneg]
      refine callL (C8 a b (hl a (List.mem_of_getElem? ha))) ?_
      simp (config := {maxSteps := 2000000, implicitDefEqProofs := false}) (disch := omega) only [↓reduceIte, go_sem, Int.reduceToNat, Nat.reduceAdd, Nat.reduceLeDiff, Nat.reduceEqDiff, Nat.reduceSub, Nat.reduceMul, reduceCtorEq]
      refine accL (by kernel_rfl) ?_
      simp (config := {maxSteps := 2000000, implicitDefEqProofs := false}) (disch := omega) only [↓reduceIte, go_sem, Int.reduceToNat, Nat.reduceAdd, Nat.reduceLeDiff, Nat.reduceEqDiff, Nat.reduceSub, Nat.reduceMul, reduceCtorEq]
      refine ifD (fun hab => ?_) (fun hab => ?_)
      · simp (config := {maxSteps := 2000000, implicitDefEqProofs := false}) (disch := omega) only [↓reduceIte, go_sem, Int.reduceToNat, Nat.reduceAdd, Nat.reduceLeDiff, Nat.reduceEqDiff, Nat.reduceSub, Nat.reduceMul, reduceCtorEq]
        refine ⟨k + 1, by simp, ⟨by omega, ?_⟩, by omega⟩
        rw [List.take_add_one, List.take_add_one, ha, hb, he, hab]
      · simp (config := {maxSteps := 2000000, implicitDefEqProofs := false}) (disch := omega) only [↓reduceIte, go_sem, Int.reduceToNat, Nat.reduceAdd, Nat.reduceLeDiff, Nat.reduceEqDiff, Nat.reduceSub, Nat.reduceMul, reduceCtorEq]
        refine ⟨?_, rfl⟩
        have : x ≠ y := fun e => by subst e; rw [ha] at hb; exact hab (Option.some.inj hb)
        simp [this]
    · simp (config := {maxSteps := 2000000, implicitDefEqProofs := false}) (disch := omega) only [↓reduceIte, go_sem, Int.reduceToNat, Nat.reduceAdd, Nat.reduceLeDiff, Nat.reduceEqDiff, Nat.reduceSub, Nat.reduceMul, reduceCtorEq]
      refine ⟨?_, rfl⟩
      have : k = x.length := by omega
      subst this
      rw [List.take_length, h, List.take_length] at he
      simp [he]
  · simp (config := {maxSteps := 2000000, implicitDefEqProofs := false}) (disch := omega) only [↓reduceIte, go_sem, Int.reduceToNat, Nat.reduceAdd, Nat.reduceLeDiff, Nat.reduceEqDiff, Nat.reduceSub, Nat.reduceMul, reduceCtorEq]
    have : x ≠ y := fun e => h (by rw [e])
    simp [ret, this]
def atO (o : Opd) : Loc := ⟨o.kind, o.cls, o.n⟩
theorem C31 (o : Opd) : Ctr Try.prog 31 [.agg (encO o)] [] (ret [.agg (encL (atO o))]) := by
  apply ctr_b A31_ok rfl (Nat.le_of_ble_eq_true rfl)
  unfold A31
  simp only [initL, Nat.reduceAdd]
  simp (config := {maxSteps := 2000000, implicitDefEqProofs := false}) (disch := omega) only [↓reduceIte, go_sem, Int.reduceToNat, Nat.reduceAdd, Nat.reduceLeDiff, Nat.reduceEqDiff, Nat.reduceSub, Nat.reduceMul, reduceCtorEq, encO]
  exact ⟨rfl, rfl⟩
structure Cell where
  pos : Loc
  n : Int
  deriving DecidableEq
def encC (c : Cell) : List AV := [.int .i64 c.pos.kind, .int .i64 c.pos.cls, .int .i64 c.pos.n, .int .i64 c.n]
theorem eqL (x y : Loc) : (x.kind == y.kind && (x.cls == y.cls && x.n == y.n)) = decide (x = y) := by
  rw [Bool.eq_iff_iff]
  cases x; cases y; simp
def idxOf {α : Type} (p : α → Bool) (l : List α) : Int := match l.findIdx? p with | some i => i | none => -1
theorem idxOf_at {α : Type} {p : α → Bool} {l : List α} {k : Nat} {m : α} (hm : l[k]? = some m) (hp : p m = true) (hn : ∀ x ∈ l.take k, p x = false) : idxOf p l = k := by
  have hk : k < l.length := (List.getElem?_eq_some_iff.1 hm).1
  have : l.findIdx? p = some k := by
    rw [List.findIdx?_eq_some_iff_getElem]
    refine ⟨hk, by rw [← (List.getElem?_eq_some_iff.1 hm).2] at hp; exact hp, fun j hj => ?_⟩
    have := hn (l[j]'(by omega)) (List.mem_take_iff_getElem.2 ⟨j, by omega, rfl⟩)
    simp [this]
  rw [idxOf, this]
theorem idxOf_no {α : Type} {p : α → Bool} {l : List α} (hn : ∀ x ∈ l, p x = false) : idxOf p l = -1 := by
  have : l.findIdx? p = none := List.findIdx?_eq_none_iff.2 hn
  rw [idxOf, this]
theorem take_ext {α : Type} {q : α → Prop} {l : List α} {k : Nat} {m : α} (hm : l[k]? = some m) (hn : ∀ x ∈ l.take k, q x) (h : q m) : ∀ x ∈ l.take (k + 1), q x := by
  intro x hx
  rw [List.take_add_one, hm] at hx
  rcases List.mem_append.1 hx with hx | hx
  · exact hn x hx
  · simp at hx
    rw [hx]
    exact h
theorem C37 (ms : List Move) (f : Nat) (caps : List AV) (p : Move → Bool) (hc : isPL caps = true) (hl : ms.length < 1000000000000) (hf : ∀ m ∈ ms, Ctr Try.prog f (.agg (encM m) :: caps) [] (ret [.bool (p m)])) :
    Ctr Try.prog 37 [.sl (ms.map encM), .fn f caps] [] (ret [.int .i64 (idxOf p ms)]) := by
  apply ctr_b A37_ok rfl (Nat.le_of_ble_eq_true rfl)
  unfold A37
  simp only [initL, Nat.reduceAdd]
  simp (config := {maxSteps := 2000000, implicitDefEqProofs := false}) (disch := omega) only [↓reduceIte, go_sem, Int.reduceToNat, Nat.reduceAdd, Nat.reduceLeDiff, Nat.reduceEqDiff, Nat.reduceSub, Nat.reduceMul, reduceCtorEq]
  refine loopL (fun (k : Nat) => ⟨[(0, .sl (ms.map encM)), (1, .fn f caps), (7, .int .i64 ms.length), (8, .int .i64 k)], []⟩) (fun k => k ≤ ms.length ∧ ∀ x ∈ ms.take k, p x = false) (fun k => ms.length - k) 0 (by simp (config := {maxSteps := 2000000, implicitDefEqProofs := false}) (disch := omega) only [↓reduceIte, go_sem, Int.reduceToNat, Nat.reduceAdd, Nat.reduceLeDiff, Nat.reduceEqDiff, Nat.reduceSub, Nat.reduceMul, reduceCtorEq, renL_pure hc]; rfl) ⟨by omega, by simp⟩ ?_
  rintro k ⟨hk, hn⟩
  simp (config := {maxSteps := 2000000, implicitDefEqProofs := false}) (disch := omega) only [↓reduceIte, go_sem, Int.reduceToNat, Nat.reduceAdd, Nat.reduceLeDiff, Nat.reduceEqDiff, Nat.reduceSub, Nat.reduceMul, reduceCtorEq]
  refine ifD (fun h1 => ?_) (fun h1 => ?_)
  · obtain ⟨m, hm⟩ : ∃ a, ms[k]? = some a := ⟨_, List.getElem?_eq_getElem (by omega)⟩
    simp (config := {maxSteps := 2000000, implicitDefEqProofs := false}) (disch := omega) only [↓reduceIte, go_sem, Int.reduceToNat, Nat.reduceAdd, Nat.reduceLeDiff, Nat.reduceEqDiff, Nat.reduceSub, Nat.reduceMul, reduceCtorEq, hm, encM, Int.natCast_nonneg, hc, renL_pure hc]
    refine callL (hf m (List.mem_of_getElem? hm)) ?_
    simp (config := {maxSteps := 2000000, implicitDefEqProofs := false}) (disch := omega) only [↓reduceIte, go_sem, Int.reduceToNat, Nat.reduceAdd, Nat.reduceLeDiff, Nat.reduceEqDiff, Nat.reduceSub, Nat.reduceMul, reduceCtorEq]
    refine ifL (fun hp => ?_) (fun hp => ?_)
    · simp (config := {maxSteps := 2000000, implicitDefEqProofs := false}) (disch := omega) only [↓reduceIte, go_sem, Int.reduceToNat, Nat.reduceAdd, Nat.reduceLeDiff, Nat.reduceEqDiff, Nat.reduceSub, Nat.reduceMul, reduceCtorEq]
      rw [idxOf_at hm hp hn]
      exact ⟨rfl, rfl⟩
    · simp (config := {maxSteps := 2000000, implicitDefEqProofs := false}) (disch := omega) only [↓reduceIte, go_sem, Int.reduceToNat, Nat.reduceAdd, Nat.reduceLeDiff, Nat.reduceEqDiff, Nat.reduceSub, Nat.reduceMul, reduceCtorEq, renL_pure hc]
      exact ⟨k + 1, by simp, ⟨by omega, take_ext hm hn hp⟩, by omega⟩
  · simp (config := {maxSteps := 2000000, implicitDefEqProofs := false}) (disch := omega) only [↓reduceIte, go_sem, Int.reduceToNat, Nat.reduceAdd, Nat.reduceLeDiff, Nat.reduceEqDiff, Nat.reduceSub, Nat.reduceMul, reduceCtorEq]
    have : k = ms.length := by omega
    subst this
    rw [List.take_length] at hn
    rw [idxOf_no hn]
    exact ⟨rfl, rfl⟩
theorem idxOf_any {α : Type} (p : α → Bool) (l : List α) : decide (idxOf p l ≥ 0) = l.any p := by
  rw [Bool.eq_iff_iff, decide_eq_true_iff]
  unfold idxOf
  cases h : l.findIdx? p with
  | none =>
    rw [List.findIdx?_eq_none_iff] at h
    simp
    exact h
  | some k =>
    rw [List.findIdx?_eq_some_iff_getElem] at h
    obtain ⟨hk, hp, _⟩ := h
    simp
    exact ⟨_, List.getElem_mem hk, hp⟩
theorem C35 (ms : List Move) (f : Nat) (caps : List AV) (p : Move → Bool) (hc : isPL caps = true) (hl : ms.length < 1000000000000) (hf : ∀ m ∈ ms, Ctr Try.prog f (.agg (encM m) :: caps) [] (ret [.bool (p m)])) :
    Ctr Try.prog 35 [.sl (ms.map encM), .fn f caps] [] (ret [.bool (ms.any p)]) := by
  apply ctr_b A35_ok rfl (Nat.le_of_ble_eq_true rfl)
  unfold A35
  simp only [initL, Nat.reduceAdd]
  simp (config := {maxSteps := 2000000, implicitDefEqProofs := false}) (disch := omega) only [↓reduceIte, go_sem, Int.reduceToNat, Nat.reduceAdd, Nat.reduceLeDiff, Nat.reduceEqDiff, Nat.reduceSub, Nat.reduceMul, reduceCtorEq, hc]
  refine callL (C37 ms f caps p hc hl hf) ?_
  simp (config := {maxSteps := 2000000, implicitDefEqProofs := false}) (disch := omega) only [↓reduceIte, go_sem, Int.reduceToNat, Nat.reduceAdd, Nat.reduceLeDiff, Nat.reduceEqDiff, Nat.reduceSub, Nat.reduceMul, reduceCtorEq]
  rw [idxOf_any]
  exact ⟨rfl, rfl⟩
theorem C39 (m o : Move) : Ctr Try.prog 39 [.agg (encM o), .rp (encM m)] [] (ret [.bool (decide (o.fr = m.to))]) := by
  apply ctr_b A39_ok rfl (Nat.le_of_ble_eq_true rfl)
  unfold A39
  simp only [initL, Nat.reduceAdd]
  simp (config := {maxSteps := 2000000, implicitDefEqProofs := false}) (disch := omega) only [↓reduceIte, go_sem, Int.reduceToNat, Nat.reduceAdd, Nat.reduceLeDiff, Nat.reduceEqDiff, Nat.reduceSub, Nat.reduceMul, reduceCtorEq, encM, eqL]
  exact ⟨rfl, rfl⟩
def open_ (l : List Move) (m : Move) : Bool := !(l.any fun o => decide (o.fr = m.to))
theorem C38 (ms : List Move) (m : Move) (hl : ms.length < 1000000000000) : Ctr Try.prog 38 [.agg (encM m), .rp [.sl (ms.map encM)]] [] (ret [.bool (open_ ms m)]) := by
  apply ctr_b A38_ok rfl (Nat.le_of_ble_eq_true rfl)
  unfold A38
  simp only [initL, Nat.reduceAdd]
  simp (config := {maxSteps := 2000000, implicitDefEqProofs := false}) (disch := omega) only [↓reduceIte, go_sem, Int.reduceToNat, Nat.reduceAdd, Nat.reduceLeDiff, Nat.reduceEqDiff, Nat.reduceSub, Nat.reduceMul, reduceCtorEq, encM]
  refine callL (C35 ms 39 [.rp (encM m)] _ rfl hl fun o _ => C39 m o) ?_
  simp (config := {maxSteps := 2000000, implicitDefEqProofs := false}) (disch := omega) only [↓reduceIte, go_sem, Int.reduceToNat, Nat.reduceAdd, Nat.reduceLeDiff, Nat.reduceEqDiff, Nat.reduceSub, Nat.reduceMul, reduceCtorEq]
  exact ⟨rfl, rfl⟩
theorem C26 (ms : List Move) (hl : ms.length < 1000000000000) : Ctr Try.prog 26 [.sl (ms.map encM)] [] (ret [.int .i64 (idxOf (open_ ms) ms)]) := by
  apply ctr_b A26_ok rfl (Nat.le_of_ble_eq_true rfl)
  unfold A26
  simp only [initL, Nat.reduceAdd]
  simp (config := {maxSteps := 2000000, implicitDefEqProofs := false}) (disch := omega) only [↓reduceIte, go_sem, Int.reduceToNat, Nat.reduceAdd, Nat.reduceLeDiff, Nat.reduceEqDiff, Nat.reduceSub, Nat.reduceMul, reduceCtorEq]
  refine callL (C37 ms 38 [.rp [.sl (ms.map encM)]] _ rfl hl fun o _ => C38 ms o hl) ?_
  simp (config := {maxSteps := 2000000, implicitDefEqProofs := false}) (disch := omega) only [↓reduceIte, go_sem, Int.reduceToNat, Nat.reduceAdd, Nat.reduceLeDiff, Nat.reduceEqDiff, Nat.reduceSub, Nat.reduceMul, reduceCtorEq]
  exact ⟨rfl, rfl⟩
theorem C36 (m o : Move) : Ctr Try.prog 36 [.agg (encM o), .rp (encM m)] [] (ret [.bool (decide (o.to = m.to))]) := by
  apply ctr_b A36_ok rfl (Nat.le_of_ble_eq_true rfl)
  unfold A36
  simp only [initL, Nat.reduceAdd]
  simp (config := {maxSteps := 2000000, implicitDefEqProofs := false}) (disch := omega) only [↓reduceIte, go_sem, Int.reduceToNat, Nat.reduceAdd, Nat.reduceLeDiff, Nat.reduceEqDiff, Nat.reduceSub, Nat.reduceMul, reduceCtorEq, encM, eqL]
  exact ⟨rfl, rfl⟩
theorem C40 (m : Move) : Ctr Try.prog 40 [.agg (encM m)] [] (ret [.bool (m.fr.kind == 2)]) := by
  apply ctr_b A40_ok rfl (Nat.le_of_ble_eq_true rfl)
  unfold A40
  simp only [initL, Nat.reduceAdd]
  simp (config := {maxSteps := 2000000, implicitDefEqProofs := false}) (disch := omega) only [↓reduceIte, go_sem, Int.reduceToNat, Nat.reduceAdd, Nat.reduceLeDiff, Nat.reduceEqDiff, Nat.reduceSub, Nat.reduceMul, reduceCtorEq, encM]
  exact ⟨rfl, rfl⟩
theorem C41 (m o : Move) : Ctr Try.prog 41 [.agg (encM o), .rp (encM m)] [] (ret [.bool (decide (o.fr = m.to))]) := by
  apply ctr_b A41_ok rfl (Nat.le_of_ble_eq_true rfl)
  unfold A41
  simp only [initL, Nat.reduceAdd]
  simp (config := {maxSteps := 2000000, implicitDefEqProofs := false}) (disch := omega) only [↓reduceIte, go_sem, Int.reduceToNat, Nat.reduceAdd, Nat.reduceLeDiff, Nat.reduceEqDiff, Nat.reduceSub, Nat.reduceMul, reduceCtorEq, encM, eqL]
  exact ⟨rfl, rfl⟩
def swapI (a : Loc) (v : Int) (b : Loc) (w : Int) : Ins := ⟨27, ⟨0, 0, 0, 0⟩, [put a v, put b w]⟩
theorem C42 (a : Loc) (v : Int) (b : Loc) (w : Int) : Ctr Try.prog 42 [.agg (encL a), .int .i64 v, .agg (encL b), .int .i64 w] [] (ret [.agg (encI (swapI a v b w))]) := by
  apply ctr_b A42_ok rfl (Nat.le_of_ble_eq_true rfl)
  unfold A42
  simp only [initL, Nat.reduceAdd]
  simp (config := {maxSteps := 2000000, implicitDefEqProofs := false}) (disch := omega) only [↓reduceIte, go_sem, Int.reduceToNat, Nat.reduceAdd, Nat.reduceLeDiff, Nat.reduceEqDiff, Nat.reduceSub, Nat.reduceMul, reduceCtorEq, encL]
  refine callL (C23 a v) ?_
  simp (config := {maxSteps := 2000000, implicitDefEqProofs := false}) (disch := omega) only [↓reduceIte, go_sem, Int.reduceToNat, Nat.reduceAdd, Nat.reduceLeDiff, Nat.reduceEqDiff, Nat.reduceSub, Nat.reduceMul, reduceCtorEq]
  refine callL (C23 b w) ?_
  simp (config := {maxSteps := 2000000, implicitDefEqProofs := false}) (disch := omega) only [↓reduceIte, go_sem, Int.reduceToNat, Nat.reduceAdd, Nat.reduceLeDiff, Nat.reduceEqDiff, Nat.reduceSub, Nat.reduceMul, reduceCtorEq, encO]
  refine accL (by kernel_rfl) ?_
  simp (config := {maxSteps := 2000000, implicitDefEqProofs := false}) (disch := omega) only [↓reduceIte, go_sem, Int.reduceToNat, Nat.reduceAdd, Nat.reduceLeDiff, Nat.reduceEqDiff, Nat.reduceSub, Nat.reduceMul, reduceCtorEq]
  exact ⟨rfl, rfl⟩
def zeroM : List AV := [.int .i64 0, .int .i64 0, .int .i64 0, .int .i64 0, .int .i64 0, .int .i64 0, .int .i64 0]
theorem C27 (ms : List Move) (junk : List (List AV)) (ver i : Nat) (hi : i < ms.length) (hl : ms.length < 1000000000000) :
    Ctr Try.prog 27 [.hs 0 ver 0 ms.length, .int .i64 i, .int .i64 ((i : Int) + 1)] [.arr ver 7 (ms.map encM ++ junk)]
      (fun r o => ∃ junk', r = [.hs 0 ver 0 (ms.length - 1)] ∧ o = [.arr ver 7 ((ms.eraseIdx i).map encM ++ junk')]) := by
  apply ctr_b A27_ok rfl (Nat.le_of_ble_eq_true rfl)
  unfold A27
  simp only [initL, Nat.reduceAdd]
  have e1 : ((i : Int) + 1).toNat = i + 1 := by omega
  have e2 : (ms.map encM).length = ms.length := by simp
  have e3 : ((ms.map encM ++ junk).drop (i + 1)).take (ms.length - (i + 1)) = (ms.drop (i + 1)).map encM := by
    rw [List.drop_append_of_le_length (by omega), List.take_append_of_le_length (by simp), List.map_drop, List.take_of_length_le (by simp)]
  have e4 : (ms.map encM ++ junk).take i = (ms.take i).map encM := by
    rw [List.take_append_of_le_length (by omega), List.map_take]
  simp (config := {maxSteps := 2000000, implicitDefEqProofs := false}) (disch := omega) only [↓reduceIte, go_sem, Int.reduceToNat, Nat.reduceAdd, Nat.reduceLeDiff, Nat.reduceEqDiff, Nat.reduceSub, Nat.reduceMul, reduceCtorEq, List.length_append, e1, Int.toNat_zero, Nat.sub_zero, e3, List.length_drop, e4]
  refine accL (by kernel_rfl) ?_
  simp (config := {maxSteps := 2000000, implicitDefEqProofs := false}) (disch := omega) only [↓reduceIte, go_sem, Int.reduceToNat, Nat.reduceAdd, Nat.reduceLeDiff, Nat.reduceEqDiff, Nat.reduceSub, Nat.reduceMul, reduceCtorEq, List.length_append, e1, Int.toNat_zero, Nat.sub_zero, e3, List.length_drop, e4, List.length_drop, List.length_take]
  have e5 : i + (ms.length - (i + 1)) = ms.length - 1 := by omega
  have e6 : (ms.take i).map encM ++ (ms.drop (i + 1)).map encM = (ms.eraseIdx i).map encM := by
    rw [← List.map_append, List.eraseIdx_eq_take_drop_succ]
  have e7 : ((ms.eraseIdx i).map encM).length = ms.length - 1 := by rw [List.length_map, List.length_eraseIdx_of_lt hi]
  rw [e5, e6]
  rw [List.take_append_of_le_length (by omega), List.take_of_length_le (by omega), List.append_assoc]
  exact ⟨_, rfl, rfl⟩
def split1 (s : List Move × List Move) (m : Move) : List Move × List Move :=
  if m.fr = m.to then s else if s.1.any (fun o => decide (o.to = m.to)) then (s.1, s.2 ++ [m]) else (s.1 ++ [m], s.2)
def split (l : List Move) : List Move × List Move := l.foldl split1 ([], [])
theorem split1_len (s : List Move × List Move) (m : Move) : (split1 s m).1.length + (split1 s m).2.length ≤ s.1.length + s.2.length + 1 := by
  unfold split1
  repeat' split
  all_goals (try simp only [List.length_append, List.length_cons, List.length_nil])
  all_goals omega
theorem foldl_take {α β : Type} (f : β → α → β) (b : β) {l : List α} {k : Nat} {m : α} (h : l[k]? = some m) : (l.take (k + 1)).foldl f b = f ((l.take k).foldl f b) m := by
  rw [List.take_add_one, h]
  simp
theorem C19 (ms : List Move) (hl : ms.length < 1000000) : Ctr Try.prog 19 [.sl (ms.map encM)] []
    (fun r o => ∃ v1 v2, r = [.hs 0 v1 0 (split ms).1.length, .hs 1 v2 0 (split ms).2.length] ∧ o = [.arr v1 7 ((split ms).1.map encM), .arr v2 7 ((split ms).2.map encM)]) := by
  apply ctr_b A19_ok rfl (Nat.le_of_ble_eq_true rfl)
  unfold A19
  simp only [initL, Nat.reduceAdd]
  simp (config := {maxSteps := 2000000, implicitDefEqProofs := false}) (disch := omega) only [↓reduceIte, go_sem, Int.reduceToNat, Nat.reduceAdd, Nat.reduceLeDiff, Nat.reduceEqDiff, Nat.reduceSub, Nat.reduceMul, reduceCtorEq]
  refine loopL (σ := Nat × Nat × Nat) (fun s => ⟨[(2, .hs 2 s.2.1 0 ((ms.take s.1).foldl split1 ([], [])).1.length), (3, .hs 3 s.2.2 0 ((ms.take s.1).foldl split1 ([], [])).2.length), (6, .sl (ms.map encM)), (7, .int .i64 ms.length), (8, .int .i64 (s.1 : Nat))],
      [(2, .arr s.2.1 7 (((ms.take s.1).foldl split1 ([], [])).1.map encM)), (3, .arr s.2.2 7 (((ms.take s.1).foldl split1 ([], [])).2.map encM))]⟩)
    (fun s => s.1 ≤ ms.length ∧ ((ms.take s.1).foldl split1 ([], [])).1.length + ((ms.take s.1).foldl split1 ([], [])).2.length ≤ s.1) (fun s => ms.length - s.1) (0, 0, 0) (by simp (config := {maxSteps := 2000000, implicitDefEqProofs := false}) (disch := omega) only [↓reduceIte, go_sem, Int.reduceToNat, Nat.reduceAdd, Nat.reduceLeDiff, Nat.reduceEqDiff, Nat.reduceSub, Nat.reduceMul, reduceCtorEq]; rfl) ⟨by simp, by simp⟩ ?_
  rintro ⟨k, v1, v2⟩ ⟨hk, hlen⟩
  simp only at hk hlen
  generalize hs : (ms.take k).foldl split1 ([], []) = s at hlen
  simp (config := {maxSteps := 2000000, implicitDefEqProofs := false}) (disch := omega) only [↓reduceIte, go_sem, Int.reduceToNat, Nat.reduceAdd, Nat.reduceLeDiff, Nat.reduceEqDiff, Nat.reduceSub, Nat.reduceMul, reduceCtorEq, hs]
  refine ifD (fun h1 => ?_) (fun h1 => ?_)
  · obtain ⟨m, hm⟩ : ∃ a, ms[k]? = some a := ⟨_, List.getElem?_eq_getElem (by omega)⟩
    have hf := foldl_take split1 ([], []) hm
    rw [hs] at hf
    have hlen' := split1_len s m
    simp (config := {maxSteps := 2000000, implicitDefEqProofs := false}) (disch := omega) only [↓reduceIte, go_sem, Int.reduceToNat, Nat.reduceAdd, Nat.reduceLeDiff, Nat.reduceEqDiff, Nat.reduceSub, Nat.reduceMul, reduceCtorEq, hm, encM, Int.natCast_nonneg, eqL]
    refine ifD (fun h => ?_) (fun h => ?_)
    · simp (config := {maxSteps := 2000000, implicitDefEqProofs := false}) (disch := omega) only [↓reduceIte, go_sem, Int.reduceToNat, Nat.reduceAdd, Nat.reduceLeDiff, Nat.reduceEqDiff, Nat.reduceSub, Nat.reduceMul, reduceCtorEq]
      refine ⟨(k + 1, v1, v2), by simp [hf, split1, h], ⟨by simp only; omega, by simp only [hf]; omega⟩, by simp only; omega⟩
    · simp (config := {maxSteps := 2000000, implicitDefEqProofs := false}) (disch := omega) only [↓reduceIte, go_sem, Int.reduceToNat, Nat.reduceAdd, Nat.reduceLeDiff, Nat.reduceEqDiff, Nat.reduceSub, Nat.reduceMul, reduceCtorEq]
      refine callL (C35 s.1 36 [.rp (encM m)] _ rfl (by omega) fun o _ => C36 m o) ?_
      simp (config := {maxSteps := 2000000, implicitDefEqProofs := false}) (disch := omega) only [↓reduceIte, go_sem, Int.reduceToNat, Nat.reduceAdd, Nat.reduceLeDiff, Nat.reduceEqDiff, Nat.reduceSub, Nat.reduceMul, reduceCtorEq]
      refine ifL (fun h2 => ?_) (fun h2 => ?_)
      · simp (config := {maxSteps := 2000000, implicitDefEqProofs := false}) (disch := omega) only [↓reduceIte, go_sem, Int.reduceToNat, Nat.reduceAdd, Nat.reduceLeDiff, Nat.reduceEqDiff, Nat.reduceSub, Nat.reduceMul, reduceCtorEq]
        refine ⟨(k + 1, v1, v2 + 1), by simp [hf, split1, h, h2, encM], ⟨by simp only; omega, by simp only [hf]; omega⟩, by simp only; omega⟩
      · simp (config := {maxSteps := 2000000, implicitDefEqProofs := false}) (disch := omega) only [↓reduceIte, go_sem, Int.reduceToNat, Nat.reduceAdd, Nat.reduceLeDiff, Nat.reduceEqDiff, Nat.reduceSub, Nat.reduceMul, reduceCtorEq]
        refine ⟨(k + 1, v1 + 1, v2), by simp [hf, split1, h, h2, encM], ⟨by simp only; omega, by simp only [hf]; omega⟩, by simp only; omega⟩
  · simp (config := {maxSteps := 2000000, implicitDefEqProofs := false}) (disch := omega) only [↓reduceIte, go_sem, Int.reduceToNat, Nat.reduceAdd, Nat.reduceLeDiff, Nat.reduceEqDiff, Nat.reduceSub, Nat.reduceMul, reduceCtorEq]
    have : k = ms.length := by omega
    subst this
    rw [List.take_length] at hs
    rw [← hs]
    exact ⟨v1, v2, rfl, rfl⟩
end Go.Proofs.Ytapfnhhedieebaa.X
