import Derived.Test.YtapfnhhedieebaaM29D
namespace Go.Proofs.Ytapfnhhedieebaa.X
open Go Go.AM Go.Proofs
attribute [local go_sem ↓] w_skip w_lbl w_ops w_draw w_pre w_post w_seq w_cond w_block w_loop w_exit w_ret w_scope th_n th_e th_r bk_n bk_r bk_e t_nil t_it t_call i_nil i_one i_grp s_nil s_cons c_call e_mv e_frz o_mov o_bin o_eq o_un o_conv o_len o_slen o_idx o_aix o_fad o_load o_store o_boxp o_boxo o_boxm o_alloc o_alloca o_nilarr o_build o_bslp o_bslo o_slc o_sslc o_slc3 o_sidx o_mkfn o_ext o_pick o_callf o_callb o_appd o_clear o_mxn o_field o_nilc o_make k_int k_str k_bool k_grb k_grt k_some k_none k_arr k_lens k_lenf k_lenh k_idxs k_idxf k_idxh k_ld k_loadp k_loadr k_loade k_storer k_storee k_oin k_ois k_slcs k_slcf k_slch k_slc3s k_slc3f k_slc3h k_app2 k_apps k_appf k_apph k_cals k_cald b_add b_sub b_mul b_quo b_rem b_and b_or b_xor b_andNot b_eql b_neq b_lss b_leq b_gtr b_geq b_shl b_shr b_seq b_sne b_slt b_sad q_bool q_str q_nil q_nilf u_not u_neg u_xor f_ret f_nor v_r v_c v_reg v_ob v_set v_put v_so v_sn v_pn v_pc g_nil d_nil p_nil m_mv m_fr z_nil z_cons z_an z_ac g_cons d_cons p_cons y_mov y_bin y_eq y_un y_conv y_len y_slen y_idx y_aix y_fad y_load y_store y_boxp y_boxo y_boxm y_alloc y_alloca y_nilarr y_build y_bslp y_bslo y_slc y_sslc y_slc3 y_sidx y_mkfn y_ext y_pick y_callf y_callb y_appd y_clear y_mxn y_field y_nilc y_make nb_if
attribute [local go_sem] VL_mk VL2_mk If_t If_f If_not If_and If_or If_dt If_df If_et If_ef If_ne Ck_t Ck_h Opt_s ld_a ld_c renL ren keepR renA idxM invL getObs mapOb renOb allNone putAll fzR fzO fz fzL fzOb frzOk upFrom mapR resOne resA cellsOf oneA oneAL isP isPL okSt kRows kParts fillA setAt bor bor0 key0 keysA scalar eqC evNil evNilF List.map_cons List.map_nil List.cons_append List.nil_append List.append_nil List.drop_zero List.drop_succ_cons List.drop_nil List.take_succ_cons List.take_zero List.take_nil List.length_cons List.length_nil List.length_map List.getElem?_map Option.map_some Option.map_none Int.toNat_natCast Int.toNat_zero Int.toNat_one Int.natCast_nonneg List.flatMap_cons List.flatMap_nil List.all_cons List.all_nil Bool.and_true Bool.true_and Bool.and_false Bool.false_and Bool.not_true Bool.not_false beq_self_eq_true nb_self all_nil List.forall_mem_cons tk_map tk_app bs_self bs_dec bq_t bq_f Bool.not_not decide_true decide_false Bool.not_not and_self and_true true_and eq_self List.reverse_cons List.reverse_nil List.getElem?_cons_zero List.getElem?_cons_succ cond_true cond_false List.set_cons_zero List.set_cons_succ Nat.zero_add Nat.add_zero if_true if_false ite_true ite_false implies_true wrap64 wrap8
set_option linter.unusedVariables false
set_option linter.unusedSimpArgs false
set_option maxRecDepth 10000
theorem C29 (ms : List Move) (p : Loc) (hl : ms.length < 1000000) : Ctr Try.prog 29 [.sl (ms.map encM), .agg (encL p)] [] (ret [.int .i64 (idxOf (fun m => decide (m.fr = p)) ms)]) := by
  apply ctr_b A29_ok rfl (Nat.le_of_ble_eq_true rfl)
  unfold A29
  simp only [initL, Nat.reduceAdd]
  simp (config := {maxSteps := 2000000, implicitDefEqProofs := false}) (disch := omega) only [↓reduceIte, go_sem, Int.reduceToNat, Nat.reduceAdd, Nat.reduceLeDiff, Nat.reduceEqDiff, Nat.reduceSub, Nat.reduceMul, reduceCtorEq, encL]
  refine loopL (fun (k : Nat) => ⟨[(0, .sl (ms.map encM)), (3, .rp (encL p)), (5, .int .i64 k)], []⟩) (fun k => k ≤ ms.length ∧ ∀ x ∈ ms.take k, decide (x.fr = p) = false) (fun k => ms.length - k) 0 (by simp (config := {maxSteps := 2000000, implicitDefEqProofs := false}) (disch := omega) only [↓reduceIte, go_sem, Int.reduceToNat, Nat.reduceAdd, Nat.reduceLeDiff, Nat.reduceEqDiff, Nat.reduceSub, Nat.reduceMul, reduceCtorEq, encL]; rfl) ⟨by omega, by simp⟩ ?_
  rintro k ⟨hk, hn⟩
  simp (config := {maxSteps := 2000000, implicitDefEqProofs := false}) (disch := omega) only [↓reduceIte, go_sem, Int.reduceToNat, Nat.reduceAdd, Nat.reduceLeDiff, Nat.reduceEqDiff, Nat.reduceSub, Nat.reduceMul, reduceCtorEq]
  refine ifD (fun h1 => ?_) (fun h1 => ?_)
  · obtain ⟨m, hm⟩ : ∃ a, ms[k]? = some a := ⟨_, List.getElem?_eq_getElem (by omega)⟩
    simp (config := {maxSteps := 2000000, implicitDefEqProofs := false}) (disch := omega) only [↓reduceIte, go_sem, Int.reduceToNat, Nat.reduceAdd, Nat.reduceLeDiff, Nat.reduceEqDiff, Nat.reduceSub, Nat.reduceMul, reduceCtorEq, hm, encM, encL, Int.natCast_nonneg, eqL]
    refine accL (by kernel_rfl) ?_
    simp (config := {maxSteps := 2000000, implicitDefEqProofs := false}) (disch := omega) only [↓reduceIte, go_sem, Int.reduceToNat, Nat.reduceAdd, Nat.reduceLeDiff, Nat.reduceEqDiff, Nat.reduceSub, Nat.reduceMul, reduceCtorEq]
    refine ifD (fun hp => ?_) (fun hp => ?_)
    · simp (config := {maxSteps := 2000000, implicitDefEqProofs := false}) (disch := omega) only [↓reduceIte, go_sem, Int.reduceToNat, Nat.reduceAdd, Nat.reduceLeDiff, Nat.reduceEqDiff, Nat.reduceSub, Nat.reduceMul, reduceCtorEq]
      rw [idxOf_at (p := fun m => decide (m.fr = p)) hm (by simp [hp]) hn]
      exact ⟨rfl, rfl⟩
    · simp (config := {maxSteps := 2000000, implicitDefEqProofs := false}) (disch := omega) only [↓reduceIte, go_sem, Int.reduceToNat, Nat.reduceAdd, Nat.reduceLeDiff, Nat.reduceEqDiff, Nat.reduceSub, Nat.reduceMul, reduceCtorEq]
      exact ⟨k + 1, by simp [encL], ⟨by omega, take_ext hm hn (by simp [hp])⟩, by omega⟩
  · simp (config := {maxSteps := 2000000, implicitDefEqProofs := false}) (disch := omega) only [↓reduceIte, go_sem, Int.reduceToNat, Nat.reduceAdd, Nat.reduceLeDiff, Nat.reduceEqDiff, Nat.reduceSub, Nat.reduceMul, reduceCtorEq]
    have : k = ms.length := by omega
    subst this
    rw [List.take_length] at hn
    rw [idxOf_no hn]
    exact ⟨rfl, rfl⟩
def getC (l : List Cell) (p : Loc) : Int := match l.find? (fun c => decide (c.pos = p)) with | some c => c.n | none => 0
theorem find_at {α : Type} {p : α → Bool} {l : List α} {k : Nat} {m : α} (hm : l[k]? = some m) (hp : p m = true) (hn : ∀ x ∈ l.take k, p x = false) : l.find? p = some m := by
  have hk := (List.getElem?_eq_some_iff.1 hm).1
  have e : l = l.take k ++ m :: l.drop (k + 1) := by
    have h2 := (List.getElem?_eq_some_iff.1 hm).2
    rw [← h2, ← List.drop_eq_getElem_cons hk, List.take_append_drop]
  rw [e, List.find?_append, List.find?_eq_none.2 (fun x hx => by simp [hn x hx]), List.find?_cons, hp]
  rfl
theorem C16 (cs : List Cell) (p : Loc) (hl : cs.length < 1000000) : Ctr Try.prog 16 [.sl (cs.map encC), .agg (encL p)] [] (ret [.int .i64 (getC cs p)]) := by
  apply ctr_b A16_ok rfl (Nat.le_of_ble_eq_true rfl)
  unfold A16
  simp only [initL, Nat.reduceAdd]
  simp (config := {maxSteps := 2000000, implicitDefEqProofs := false}) (disch := omega) only [↓reduceIte, go_sem, Int.reduceToNat, Nat.reduceAdd, Nat.reduceLeDiff, Nat.reduceEqDiff, Nat.reduceSub, Nat.reduceMul, reduceCtorEq, encL]
  refine loopL (fun (k : Nat) => ⟨[(0, .sl (cs.map encC)), (3, .rp (encL p)), (5, .int .i64 k)], []⟩) (fun k => k ≤ cs.length ∧ ∀ x ∈ cs.take k, decide (x.pos = p) = false) (fun k => cs.length - k) 0 (by simp (config := {maxSteps := 2000000, implicitDefEqProofs := false}) (disch := omega) only [↓reduceIte, go_sem, Int.reduceToNat, Nat.reduceAdd, Nat.reduceLeDiff, Nat.reduceEqDiff, Nat.reduceSub, Nat.reduceMul, reduceCtorEq, encL]; rfl) ⟨by omega, by simp⟩ ?_
  rintro k ⟨hk, hn⟩
  simp (config := {maxSteps := 2000000, implicitDefEqProofs := false}) (disch := omega) only [↓reduceIte, go_sem, Int.reduceToNat, Nat.reduceAdd, Nat.reduceLeDiff, Nat.reduceEqDiff, Nat.reduceSub, Nat.reduceMul, reduceCtorEq]
  refine ifD (fun h1 => ?_) (fun h1 => ?_)
  · obtain ⟨m, hm⟩ : ∃ a, cs[k]? = some a := ⟨_, List.getElem?_eq_getElem (by omega)⟩
    simp (config := {maxSteps := 2000000, implicitDefEqProofs := false}) (disch := omega) only [↓reduceIte, go_sem, Int.reduceToNat, Nat.reduceAdd, Nat.reduceLeDiff, Nat.reduceEqDiff, Nat.reduceSub, Nat.reduceMul, reduceCtorEq, hm, encC, encL, Int.natCast_nonneg, eqL]
    refine accL (by kernel_rfl) ?_
    simp (config := {maxSteps := 2000000, implicitDefEqProofs := false}) (disch := omega) only [↓reduceIte, go_sem, Int.reduceToNat, Nat.reduceAdd, Nat.reduceLeDiff, Nat.reduceEqDiff, Nat.reduceSub, Nat.reduceMul, reduceCtorEq]
    refine ifD (fun hp => ?_) (fun hp => ?_)
    · simp (config := {maxSteps := 2000000, implicitDefEqProofs := false}) (disch := omega) only [↓reduceIte, go_sem, Int.reduceToNat, Nat.reduceAdd, Nat.reduceLeDiff, Nat.reduceEqDiff, Nat.reduceSub, Nat.reduceMul, reduceCtorEq, hm, encC, Int.natCast_nonneg]
      rw [getC, find_at (p := fun c => decide (c.pos = p)) hm (by simp [hp]) hn]
      exact ⟨rfl, rfl⟩
    · simp (config := {maxSteps := 2000000, implicitDefEqProofs := false}) (disch := omega) only [↓reduceIte, go_sem, Int.reduceToNat, Nat.reduceAdd, Nat.reduceLeDiff, Nat.reduceEqDiff, Nat.reduceSub, Nat.reduceMul, reduceCtorEq]
      exact ⟨k + 1, by simp [encL], ⟨by omega, take_ext hm hn (by simp [hp])⟩, by omega⟩
  · simp (config := {maxSteps := 2000000, implicitDefEqProofs := false}) (disch := omega) only [↓reduceIte, go_sem, Int.reduceToNat, Nat.reduceAdd, Nat.reduceLeDiff, Nat.reduceEqDiff, Nat.reduceSub, Nat.reduceMul, reduceCtorEq]
    have : k = cs.length := by omega
    subst this
    rw [List.take_length] at hn
    rw [getC, List.find?_eq_none.2 (fun x hx => by simp [hn x hx])]
    exact ⟨rfl, rfl⟩
def setC (l : List Cell) (p : Loc) (n : Int) : List Cell := ⟨p, n⟩ :: l.filter (fun c => !decide (c.pos = p))
theorem filter_take {α : Type} (p : α → Bool) {l : List α} {k : Nat} {m : α} (h : l[k]? = some m) : (l.take (k + 1)).filter p = (l.take k).filter p ++ (if p m then [m] else []) := by
  rw [List.take_add_one, h, List.filter_append]
  by_cases hp : p m <;> simp [hp]
theorem C14 (cs : List Cell) (p : Loc) (n : Int) (hl : cs.length < 1000000) : Ctr Try.prog 14 [.sl (cs.map encC), .agg (encL p), .int .i64 n] [] (ret [.sl ((setC cs p n).map encC)]) := by
  apply ctr_b A14_ok rfl (Nat.le_of_ble_eq_true rfl)
  unfold A14
  simp only [initL, Nat.reduceAdd]
  simp (config := {maxSteps := 2000000, implicitDefEqProofs := false}) (disch := omega) only [↓reduceIte, go_sem, Int.reduceToNat, Nat.reduceAdd, Nat.reduceLeDiff, Nat.reduceEqDiff, Nat.reduceSub, Nat.reduceMul, reduceCtorEq, encL]
  refine loopL (σ := Nat × Nat) (fun s => ⟨[(0, .sl (cs.map encC)), (4, .rp (encL p)), (7, .hs 12 s.2 0 (setC (cs.take s.1) p n).length), (8, .int .i64 (s.1 : Nat))], [(12, .arr s.2 4 ((setC (cs.take s.1) p n).map encC))]⟩) (fun s => s.1 ≤ cs.length) (fun s => cs.length - s.1) (0, 0) (by simp (config := {maxSteps := 2000000, implicitDefEqProofs := false}) (disch := omega) only [↓reduceIte, go_sem, Int.reduceToNat, Nat.reduceAdd, Nat.reduceLeDiff, Nat.reduceEqDiff, Nat.reduceSub, Nat.reduceMul, reduceCtorEq]; rfl) (by simp) ?_
  rintro ⟨k, v⟩ hk
  simp only at hk
  have hle : (setC (cs.take k) p n).length ≤ k + 1 := by
    have := List.length_filter_le (fun c : Cell => !decide (c.pos = p)) (cs.take k)
    simp only [setC, List.length_cons]
    rw [List.length_take, Nat.min_eq_left hk] at this
    omega
  simp (config := {maxSteps := 2000000, implicitDefEqProofs := false}) (disch := omega) only [↓reduceIte, go_sem, Int.reduceToNat, Nat.reduceAdd, Nat.reduceLeDiff, Nat.reduceEqDiff, Nat.reduceSub, Nat.reduceMul, reduceCtorEq]
  refine ifD (fun h1 => ?_) (fun h1 => ?_)
  · obtain ⟨m, hm⟩ : ∃ a, cs[k]? = some a := ⟨_, List.getElem?_eq_getElem (by omega)⟩
    have hf := filter_take (fun c : Cell => !decide (c.pos = p)) hm
    simp (config := {maxSteps := 2000000, implicitDefEqProofs := false}) (disch := omega) only [↓reduceIte, go_sem, Int.reduceToNat, Nat.reduceAdd, Nat.reduceLeDiff, Nat.reduceEqDiff, Nat.reduceSub, Nat.reduceMul, reduceCtorEq, hm, encC, encL, Int.natCast_nonneg, eqL]
    refine accL (by kernel_rfl) ?_
    simp (config := {maxSteps := 2000000, implicitDefEqProofs := false}) (disch := omega) only [↓reduceIte, go_sem, Int.reduceToNat, Nat.reduceAdd, Nat.reduceLeDiff, Nat.reduceEqDiff, Nat.reduceSub, Nat.reduceMul, reduceCtorEq]
    refine ifD (fun hp => ?_) (fun hp => ?_)
    · simp (config := {maxSteps := 2000000, implicitDefEqProofs := false}) (disch := omega) only [↓reduceIte, go_sem, Int.reduceToNat, Nat.reduceAdd, Nat.reduceLeDiff, Nat.reduceEqDiff, Nat.reduceSub, Nat.reduceMul, reduceCtorEq]
      refine ⟨(k + 1, v), ?_, by simp only; omega, by simp only; omega⟩
      simp [setC, hf, hp, encL]
    · simp (config := {maxSteps := 2000000, implicitDefEqProofs := false}) (disch := omega) only [↓reduceIte, go_sem, Int.reduceToNat, Nat.reduceAdd, Nat.reduceLeDiff, Nat.reduceEqDiff, Nat.reduceSub, Nat.reduceMul, reduceCtorEq, hm, encC, Int.natCast_nonneg]
      refine ⟨(k + 1, v + 1), ?_, by simp only; omega, by simp only; omega⟩
      simp [setC, hf, hp, encL, encC]
  · simp (config := {maxSteps := 2000000, implicitDefEqProofs := false}) (disch := omega) only [↓reduceIte, go_sem, Int.reduceToNat, Nat.reduceAdd, Nat.reduceLeDiff, Nat.reduceEqDiff, Nat.reduceSub, Nat.reduceMul, reduceCtorEq]
    have : k = cs.length := by omega
    subst this
    rw [List.take_length]
    exact ⟨rfl, rfl⟩
def doC (l : List Cell) (x : Ins) : List Cell := match x.args with
  | [a, b] => if x.op = 27 then setC (setC l (atO a) (getC l (atO b))) (atO b) (getC l (atO a)) else l
  | [a] => setC l (atO x.dst) (getC l (atO a))
  | _ => l
theorem setC_len (l : List Cell) (p : Loc) (n : Int) : (setC l p n).length ≤ l.length + 1 := by
  have := List.length_filter_le (fun c : Cell => !decide (c.pos = p)) l
  simp only [setC, List.length_cons]
  omega
theorem C15 (cs : List Cell) (x : Ins) (hl : cs.length < 10000) : Ctr Try.prog 15 [.sl (cs.map encC), .agg (encI x)] [] (ret [.sl ((doC cs x).map encC)]) := by
  apply ctr_b A15_ok rfl (Nat.le_of_ble_eq_true rfl)
  unfold A15
  simp only [initL, Nat.reduceAdd]
  obtain ⟨op, dst, args⟩ := x
  match args with
  | [] =>
    simp (config := {maxSteps := 2000000, implicitDefEqProofs := false}) (disch := omega) only [↓reduceIte, go_sem, Int.reduceToNat, Nat.reduceAdd, Nat.reduceLeDiff, Nat.reduceEqDiff, Nat.reduceSub, Nat.reduceMul, reduceCtorEq, encI]
    refine ifE (fun h => ?_) (fun h => ?_)
    · simp (config := {maxSteps := 2000000, implicitDefEqProofs := false}) (disch := omega) only [↓reduceIte, go_sem, Int.reduceToNat, Nat.reduceAdd, Nat.reduceLeDiff, Nat.reduceEqDiff, Nat.reduceSub, Nat.reduceMul, reduceCtorEq]
      exact ⟨rfl, rfl⟩
    · simp (config := {maxSteps := 2000000, implicitDefEqProofs := false}) (disch := omega) only [↓reduceIte, go_sem, Int.reduceToNat, Nat.reduceAdd, Nat.reduceLeDiff, Nat.reduceEqDiff, Nat.reduceSub, Nat.reduceMul, reduceCtorEq]
      exact ⟨rfl, rfl⟩
  | [a] =>
    simp (config := {maxSteps := 2000000, implicitDefEqProofs := false}) (disch := omega) only [↓reduceIte, go_sem, Int.reduceToNat, Nat.reduceAdd, Nat.reduceLeDiff, Nat.reduceEqDiff, Nat.reduceSub, Nat.reduceMul, reduceCtorEq, encI]
    refine ifE (fun h => ?_) (fun h => ?_)
    all_goals
      simp (config := {maxSteps := 2000000, implicitDefEqProofs := false}) (disch := omega) only [↓reduceIte, go_sem, Int.reduceToNat, Nat.reduceAdd, Nat.reduceLeDiff, Nat.reduceEqDiff, Nat.reduceSub, Nat.reduceMul, reduceCtorEq, encO]
      refine callL (C31 dst) ?_
      simp (config := {maxSteps := 2000000, implicitDefEqProofs := false}) (disch := omega) only [↓reduceIte, go_sem, Int.reduceToNat, Nat.reduceAdd, Nat.reduceLeDiff, Nat.reduceEqDiff, Nat.reduceSub, Nat.reduceMul, reduceCtorEq, encO]
      refine callL (C31 a) ?_
      simp (config := {maxSteps := 2000000, implicitDefEqProofs := false}) (disch := omega) only [↓reduceIte, go_sem, Int.reduceToNat, Nat.reduceAdd, Nat.reduceLeDiff, Nat.reduceEqDiff, Nat.reduceSub, Nat.reduceMul, reduceCtorEq]
      refine callL (C16 cs (atO a) (by omega)) ?_
      simp (config := {maxSteps := 2000000, implicitDefEqProofs := false}) (disch := omega) only [↓reduceIte, go_sem, Int.reduceToNat, Nat.reduceAdd, Nat.reduceLeDiff, Nat.reduceEqDiff, Nat.reduceSub, Nat.reduceMul, reduceCtorEq]
      refine callL (C14 cs (atO dst) (getC cs (atO a)) (by omega)) ?_
      simp (config := {maxSteps := 2000000, implicitDefEqProofs := false}) (disch := omega) only [↓reduceIte, go_sem, Int.reduceToNat, Nat.reduceAdd, Nat.reduceLeDiff, Nat.reduceEqDiff, Nat.reduceSub, Nat.reduceMul, reduceCtorEq]
      refine accL (by kernel_rfl) ?_
      simp (config := {maxSteps := 2000000, implicitDefEqProofs := false}) (disch := omega) only [↓reduceIte, go_sem, Int.reduceToNat, Nat.reduceAdd, Nat.reduceLeDiff, Nat.reduceEqDiff, Nat.reduceSub, Nat.reduceMul, reduceCtorEq]
      exact ⟨rfl, rfl⟩
  | [a, b] =>
    simp (config := {maxSteps := 2000000, implicitDefEqProofs := false}) (disch := omega) only [↓reduceIte, go_sem, Int.reduceToNat, Nat.reduceAdd, Nat.reduceLeDiff, Nat.reduceEqDiff, Nat.reduceSub, Nat.reduceMul, reduceCtorEq, encI]
    refine ifE (fun h => ?_) (fun h => ?_)
    · simp (config := {maxSteps := 2000000, implicitDefEqProofs := false}) (disch := omega) only [↓reduceIte, go_sem, Int.reduceToNat, Nat.reduceAdd, Nat.reduceLeDiff, Nat.reduceEqDiff, Nat.reduceSub, Nat.reduceMul, reduceCtorEq, encO]
      refine callL (C31 a) ?_
      simp (config := {maxSteps := 2000000, implicitDefEqProofs := false}) (disch := omega) only [↓reduceIte, go_sem, Int.reduceToNat, Nat.reduceAdd, Nat.reduceLeDiff, Nat.reduceEqDiff, Nat.reduceSub, Nat.reduceMul, reduceCtorEq, encO]
      refine callL (C31 b) ?_
      simp (config := {maxSteps := 2000000, implicitDefEqProofs := false}) (disch := omega) only [↓reduceIte, go_sem, Int.reduceToNat, Nat.reduceAdd, Nat.reduceLeDiff, Nat.reduceEqDiff, Nat.reduceSub, Nat.reduceMul, reduceCtorEq, encL]
      refine accL (by kernel_rfl) ?_
      simp (config := {maxSteps := 2000000, implicitDefEqProofs := false}) (disch := omega) only [↓reduceIte, go_sem, Int.reduceToNat, Nat.reduceAdd, Nat.reduceLeDiff, Nat.reduceEqDiff, Nat.reduceSub, Nat.reduceMul, reduceCtorEq]
      refine callL (C16 cs (atO a) (by omega)) ?_
      simp (config := {maxSteps := 2000000, implicitDefEqProofs := false}) (disch := omega) only [↓reduceIte, go_sem, Int.reduceToNat, Nat.reduceAdd, Nat.reduceLeDiff, Nat.reduceEqDiff, Nat.reduceSub, Nat.reduceMul, reduceCtorEq]
      refine callL (C16 cs (atO b) (by omega)) ?_
      simp (config := {maxSteps := 2000000, implicitDefEqProofs := false}) (disch := omega) only [↓reduceIte, go_sem, Int.reduceToNat, Nat.reduceAdd, Nat.reduceLeDiff, Nat.reduceEqDiff, Nat.reduceSub, Nat.reduceMul, reduceCtorEq]
      refine accL (by kernel_rfl) ?_
      simp (config := {maxSteps := 2000000, implicitDefEqProofs := false}) (disch := omega) only [↓reduceIte, go_sem, Int.reduceToNat, Nat.reduceAdd, Nat.reduceLeDiff, Nat.reduceEqDiff, Nat.reduceSub, Nat.reduceMul, reduceCtorEq]
      refine callL (C14 cs (atO a) (getC cs (atO b)) (by omega)) ?_
      simp (config := {maxSteps := 2000000, implicitDefEqProofs := false}) (disch := omega) only [↓reduceIte, go_sem, Int.reduceToNat, Nat.reduceAdd, Nat.reduceLeDiff, Nat.reduceEqDiff, Nat.reduceSub, Nat.reduceMul, reduceCtorEq]
      have := setC_len cs (atO a) (getC cs (atO b))
      refine callL (C14 (setC cs (atO a) (getC cs (atO b))) (atO b) (getC cs (atO a)) (by omega)) ?_
      simp (config := {maxSteps := 2000000, implicitDefEqProofs := false}) (disch := omega) only [↓reduceIte, go_sem, Int.reduceToNat, Nat.reduceAdd, Nat.reduceLeDiff, Nat.reduceEqDiff, Nat.reduceSub, Nat.reduceMul, reduceCtorEq]
      refine accL (by kernel_rfl) ?_
      simp (config := {maxSteps := 2000000, implicitDefEqProofs := false}) (disch := omega) only [↓reduceIte, go_sem, Int.reduceToNat, Nat.reduceAdd, Nat.reduceLeDiff, Nat.reduceEqDiff, Nat.reduceSub, Nat.reduceMul, reduceCtorEq]
      simp [ret, doC, h]
    · simp (config := {maxSteps := 2000000, implicitDefEqProofs := false}) (disch := omega) only [↓reduceIte, go_sem, Int.reduceToNat, Nat.reduceAdd, Nat.reduceLeDiff, Nat.reduceEqDiff, Nat.reduceSub, Nat.reduceMul, reduceCtorEq]
      simp [ret, doC, h]
  | a :: b :: c :: r =>
    simp (config := {maxSteps := 2000000, implicitDefEqProofs := false}) (disch := omega) only [↓reduceIte, go_sem, Int.reduceToNat, Nat.reduceAdd, Nat.reduceLeDiff, Nat.reduceEqDiff, Nat.reduceSub, Nat.reduceMul, reduceCtorEq, encI]
    refine ifE (fun h => ?_) (fun h => ?_)
    · simp (config := {maxSteps := 2000000, implicitDefEqProofs := false}) (disch := omega) only [↓reduceIte, go_sem, Int.reduceToNat, Nat.reduceAdd, Nat.reduceLeDiff, Nat.reduceEqDiff, Nat.reduceSub, Nat.reduceMul, reduceCtorEq]
      exact ⟨rfl, rfl⟩
    · simp (config := {maxSteps := 2000000, implicitDefEqProofs := false}) (disch := omega) only [↓reduceIte, go_sem, Int.reduceToNat, Nat.reduceAdd, Nat.reduceLeDiff, Nat.reduceEqDiff, Nat.reduceSub, Nat.reduceMul, reduceCtorEq]
      exact ⟨rfl, rfl⟩
theorem C30 (ms : List Move) (i : Nat) (hl : ms.length < 1000000) (hi : i < ms.length) : Ctr Try.prog 30 [.sl (ms.map encM), .int .i64 i] [] (ret [.sl ((ms.eraseIdx i).map encM)]) := by
  apply ctr_b A30_ok rfl (Nat.le_of_ble_eq_true rfl)
  unfold A30
  simp only [initL, Nat.reduceAdd]
  simp (config := {maxSteps := 2000000, implicitDefEqProofs := false}) (disch := omega) only [↓reduceIte, go_sem, Int.reduceToNat, Nat.reduceAdd, Nat.reduceLeDiff, Nat.reduceEqDiff, Nat.reduceSub, Nat.reduceMul, reduceCtorEq]
  refine loopL (σ := Nat × Nat) (fun s => ⟨[(0, .sl (ms.map encM)), (1, .int .i64 i), (5, .hs 5 s.2 0 ((ms.take s.1).eraseIdx i).length), (6, .int .i64 (s.1 : Nat))], [(5, .arr s.2 7 (((ms.take s.1).eraseIdx i).map encM))]⟩) (fun s => s.1 ≤ ms.length) (fun s => ms.length - s.1) (0, 0) (by simp (config := {maxSteps := 2000000, implicitDefEqProofs := false}) (disch := omega) only [↓reduceIte, go_sem, Int.reduceToNat, Nat.reduceAdd, Nat.reduceLeDiff, Nat.reduceEqDiff, Nat.reduceSub, Nat.reduceMul, reduceCtorEq]; simp) (by simp) ?_
  rintro ⟨k, v⟩ hk
  simp only at hk
  have hle : ((ms.take k).eraseIdx i).length ≤ k := by
    have := List.length_eraseIdx_le (ms.take k) i
    rw [List.length_take, Nat.min_eq_left hk] at this
    omega
  simp (config := {maxSteps := 2000000, implicitDefEqProofs := false}) (disch := omega) only [↓reduceIte, go_sem, Int.reduceToNat, Nat.reduceAdd, Nat.reduceLeDiff, Nat.reduceEqDiff, Nat.reduceSub, Nat.reduceMul, reduceCtorEq]
  refine ifD (fun h1 => ?_) (fun h1 => ?_)
  · obtain ⟨m, hm⟩ : ∃ a, ms[k]? = some a := ⟨_, List.getElem?_eq_getElem (by omega)⟩
    simp (config := {maxSteps := 2000000, implicitDefEqProofs := false}) (disch := omega) only [↓reduceIte, go_sem, Int.reduceToNat, Nat.reduceAdd, Nat.reduceLeDiff, Nat.reduceEqDiff, Nat.reduceSub, Nat.reduceMul, reduceCtorEq, hm, encM, Int.natCast_nonneg]
    have ht : ms.take (k + 1) = ms.take k ++ [m] := by rw [List.take_add_one, hm]; rfl
    have hlk : (ms.take k).length = k := by rw [List.length_take]; omega
    refine ifE (fun hki => ?_) (fun hki => ?_)
    · have hki : k = i := by omega
      subst hki
      have e : (ms.take (k + 1)).eraseIdx k = (ms.take k).eraseIdx k := by
        rw [ht, List.eraseIdx_append_of_length_le (by omega), hlk, Nat.sub_self, List.eraseIdx_of_length_le (by omega : (ms.take k).length ≤ k)]
        simp
      simp (config := {maxSteps := 2000000, implicitDefEqProofs := false}) (disch := omega) only [↓reduceIte, go_sem, Int.reduceToNat, Nat.reduceAdd, Nat.reduceLeDiff, Nat.reduceEqDiff, Nat.reduceSub, Nat.reduceMul, reduceCtorEq]
      refine ⟨(k + 1, v), ?_, by simp only; omega, by simp only; omega⟩
      simp [e]
    · have e : (ms.take (k + 1)).eraseIdx i = (ms.take k).eraseIdx i ++ [m] := by
        rw [ht]
        by_cases hlt : i < k
        · rw [List.eraseIdx_append_of_lt_length (by omega)]
        · rw [List.eraseIdx_of_length_le (by simp; omega), List.eraseIdx_of_length_le (by omega)]
      simp (config := {maxSteps := 2000000, implicitDefEqProofs := false}) (disch := omega) only [↓reduceIte, go_sem, Int.reduceToNat, Nat.reduceAdd, Nat.reduceLeDiff, Nat.reduceEqDiff, Nat.reduceSub, Nat.reduceMul, reduceCtorEq, hm, encM, Int.natCast_nonneg]
      refine ⟨(k + 1, v + 1), ?_, by simp only; omega, by simp only; omega⟩
      simp [e, encM]
  · simp (config := {maxSteps := 2000000, implicitDefEqProofs := false}) (disch := omega) only [↓reduceIte, go_sem, Int.reduceToNat, Nat.reduceAdd, Nat.reduceLeDiff, Nat.reduceEqDiff, Nat.reduceSub, Nat.reduceMul, reduceCtorEq]
    have : k = ms.length := by omega
    subst this
    rw [List.take_length]
    exact ⟨rfl, rfl⟩
end Go.Proofs.Ytapfnhhedieebaa.X
