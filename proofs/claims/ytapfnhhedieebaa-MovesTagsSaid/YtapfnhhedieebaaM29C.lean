import Derived.Test.YtapfnhhedieebaaM29B
namespace Go.Proofs.Ytapfnhhedieebaa.X
open Go Go.AM Go.Proofs
attribute [local go_sem ↓] w_skip w_lbl w_ops w_draw w_pre w_post w_seq w_cond w_block w_loop w_exit w_ret w_scope th_n th_e th_r bk_n bk_r bk_e t_nil t_it t_call i_nil i_one i_grp s_nil s_cons c_call e_mv e_frz o_mov o_bin o_eq o_un o_conv o_len o_slen o_idx o_aix o_fad o_load o_store o_boxp o_boxo o_boxm o_alloc o_alloca o_nilarr o_build o_bslp o_bslo o_slc o_sslc o_slc3 o_sidx o_mkfn o_ext o_pick o_callf o_callb o_appd o_clear o_mxn o_field o_nilc o_make k_int k_str k_bool k_grb k_grt k_some k_none k_arr k_lens k_lenf k_lenh k_idxs k_idxf k_idxh k_ld k_loadp k_loadr k_loade k_storer k_storee k_oin k_ois k_slcs k_slcf k_slch k_slc3s k_slc3f k_slc3h k_app2 k_apps k_appf k_apph k_cals k_cald b_add b_sub b_mul b_quo b_rem b_and b_or b_xor b_andNot b_eql b_neq b_lss b_leq b_gtr b_geq b_shl b_shr b_seq b_sne b_slt b_sad q_bool q_str q_nil q_nilf u_not u_neg u_xor f_ret f_nor v_r v_c v_reg v_ob v_set v_put v_so v_sn v_pn v_pc g_nil d_nil p_nil m_mv m_fr z_nil z_cons z_an z_ac g_cons d_cons p_cons y_mov y_bin y_eq y_un y_conv y_len y_slen y_idx y_aix y_fad y_load y_store y_boxp y_boxo y_boxm y_alloc y_alloca y_nilarr y_build y_bslp y_bslo y_slc y_sslc y_slc3 y_sidx y_mkfn y_ext y_pick y_callf y_callb y_appd y_clear y_mxn y_field y_nilc y_make nb_if
attribute [local go_sem] VL_mk VL2_mk If_t If_f If_not If_and If_or If_dt If_df If_et If_ef If_ne Ck_t Ck_h Opt_s ld_a ld_c renL ren keepR renA idxM invL getObs mapOb renOb allNone putAll fzR fzO fz fzL fzOb frzOk upFrom mapR resOne resA cellsOf oneA oneAL isP isPL okSt kRows kParts fillA setAt bor bor0 key0 keysA scalar eqC evNil evNilF List.map_cons List.map_nil List.cons_append List.nil_append List.append_nil List.drop_zero List.drop_succ_cons List.drop_nil List.take_succ_cons List.take_zero List.take_nil List.length_cons List.length_nil List.length_map List.getElem?_map Option.map_some Option.map_none Int.toNat_natCast Int.toNat_zero Int.toNat_one Int.natCast_nonneg List.flatMap_cons List.flatMap_nil List.all_cons List.all_nil Bool.and_true Bool.true_and Bool.and_false Bool.false_and Bool.not_true Bool.not_false beq_self_eq_true nb_self all_nil List.forall_mem_cons tk_map tk_app bs_self bs_dec bq_t bq_f Bool.not_not decide_true decide_false Bool.not_not and_self and_true true_and eq_self List.reverse_cons List.reverse_nil List.getElem?_cons_zero List.getElem?_cons_succ cond_true cond_false List.set_cons_zero List.set_cons_succ Nat.zero_add Nat.add_zero if_true if_false ite_true ite_false implies_true wrap64 wrap8
set_option linter.unusedVariables false
set_option linter.unusedSimpArgs false
set_option maxRecDepth 10000
theorem lenM {ms : List Move} : (∀ c ∈ ms.map encM, c.length = 7) = True := by simp [encM]
def kOf (p : Move → Bool) (l : List Move) : Nat := (l.findIdx? p).getD 0
theorem kOf_idx (p : Move → Bool) (l : List Move) : (if (0 : Int) > idxOf p l then 0 else idxOf p l) = (kOf p l : Int) := by
  unfold idxOf kOf
  cases h : l.findIdx? p with
  | none => simp
  | some k => simp; omega
theorem kOf_lt {p : Move → Bool} {l : List Move} (h : l ≠ []) : kOf p l < l.length := by
  unfold kOf
  have : 0 < l.length := List.length_pos_iff.2 h
  cases hh : l.findIdx? p with
  | none => simpa using this
  | some k =>
    rw [List.findIdx?_eq_some_iff_getElem] at hh
    obtain ⟨hk, _⟩ := hh
    simpa using hk
instance : Inhabited Move := ⟨⟨0, ⟨0, 0, 0⟩, ⟨0, 0, 0⟩⟩⟩
/-- What is left behind a change about: the move at k ended, and who wanted from its place now wants from where it was. -/
def left1 (m : Move) (k : Nat) (s : List Move × Nat) (o : Move) : List Move × Nat :=
  let o' : Move := if o.fr = m.to then ⟨o.v, m.fr, o.to⟩ else o
  (if s.2 ≠ k ∧ o'.fr ≠ o'.to then s.1 ++ [o'] else s.1, s.2 + 1)
def leftL (m : Move) (k : Nat) (l : List Move) : List Move := (l.foldl (left1 m k) ([], 0)).1
def turnK (l : List Move) : Nat := kOf (fun m => m.fr.kind == 2) l
def turnI (l : List Move) (k : Nat) : Ins := swapI (l[k]!).to (l[k]!).v (l[k]!).fr (l[kOf (fun o => decide (o.fr = (l[k]!).to)) l]!).v
theorem left1_len (m : Move) (k : Nat) (l : List Move) (s : List Move × Nat) : (l.foldl (left1 m k) s).1.length ≤ s.1.length + l.length ∧ (l.foldl (left1 m k) s).2 = s.2 + l.length := by
  induction l generalizing s with
  | nil => simp
  | cons o l ih =>
    simp only [List.foldl_cons, List.length_cons]
    have := ih (left1 m k s o)
    have h2 : (left1 m k s o).1.length ≤ s.1.length + 1 := by
      unfold left1
      simp only
      repeat' split
      all_goals simp
    have h3 : (left1 m k s o).2 = s.2 + 1 := rfl
    omega
theorem get_bang {l : List Move} {k : Nat} (h : k < l.length) : l[k]? = some l[k]! := by
  rw [List.getElem!_eq_getElem?_getD, List.getElem?_eq_getElem h]
  rfl
theorem C28 (ms : List Move) (junk : List (List AV)) (ver : Nat) (hne : ms ≠ []) (hl : ms.length < 1000000) :
    Ctr Try.prog 28 [.hs 0 ver 0 ms.length] [.arr ver 7 (ms.map encM ++ junk)]
      (fun r o => ∃ v, r = [.agg (encI (turnI ms (turnK ms))), .hs 1 v 0 (leftL ms[turnK ms]! (turnK ms) ms).length] ∧ o = [.arr ver 7 (ms.map encM ++ junk), .arr v 7 ((leftL ms[turnK ms]! (turnK ms) ms).map encM)]) := by
  apply ctr_b A28_ok rfl (Nat.le_of_ble_eq_true rfl)
  unfold A28
  simp only [initL, Nat.reduceAdd]
  simp (config := {maxSteps := 2000000, implicitDefEqProofs := false}) (disch := omega) only [↓reduceIte, go_sem, Int.reduceToNat, Nat.reduceAdd, Nat.reduceLeDiff, Nat.reduceEqDiff, Nat.reduceSub, Nat.reduceMul, reduceCtorEq]
  refine callL (C37 ms 40 [] _ rfl (by omega) fun o _ => C40 o) ?_
  have hk : turnK ms < ms.length := kOf_lt hne
  have tK : kOf (fun o => o.fr.kind == 2) ms = turnK ms := rfl
  have hm := get_bang hk
  have e1 : (ms.map encM ++ junk)[turnK ms]? = some (encM ms[turnK ms]!) := by
    rw [List.getElem?_append_left (by simpa using hk), List.getElem?_map, hm]
    rfl
  unfold turnI
  generalize hmm : ms[turnK ms]! = m at *
  simp (config := {maxSteps := 2000000, implicitDefEqProofs := false}) (disch := omega) only [↓reduceIte, go_sem, Int.reduceToNat, Nat.reduceAdd, Nat.reduceLeDiff, Nat.reduceEqDiff, Nat.reduceSub, Nat.reduceMul, reduceCtorEq, kOf_idx, tK, e1, Int.natCast_nonneg, Nat.zero_add, encM]
  refine callL (C37 ms 41 [.rp (encM m)] _ rfl (by omega) fun o _ => C41 m o) ?_
  have hk2 : kOf (fun o => decide (o.fr = m.to)) ms < ms.length := kOf_lt hne
  have hm2 := get_bang hk2
  have e2 : (ms.map encM ++ junk)[kOf (fun o => decide (o.fr = m.to)) ms]? = some (encM ms[kOf (fun o => decide (o.fr = m.to)) ms]!) := by
    rw [List.getElem?_append_left (by simpa using hk2), List.getElem?_map, hm2]
    rfl
  generalize hmm2 : ms[kOf (fun o => decide (o.fr = m.to)) ms]! = m2 at *
  simp (config := {maxSteps := 2000000, implicitDefEqProofs := false}) (disch := omega) only [↓reduceIte, go_sem, Int.reduceToNat, Nat.reduceAdd, Nat.reduceLeDiff, Nat.reduceEqDiff, Nat.reduceSub, Nat.reduceMul, reduceCtorEq, kOf_idx, e2, Int.natCast_nonneg, Nat.zero_add, encM]
  refine callL (C42 m.to m.v m.fr m2.v) ?_
  simp (config := {maxSteps := 2000000, implicitDefEqProofs := false}) (disch := omega) only [↓reduceIte, go_sem, Int.reduceToNat, Nat.reduceAdd, Nat.reduceLeDiff, Nat.reduceEqDiff, Nat.reduceSub, Nat.reduceMul, reduceCtorEq, encI]
  refine accL (by kernel_rfl) ?_
  simp (config := {maxSteps := 2000000, implicitDefEqProofs := false}) (disch := omega) only [↓reduceIte, go_sem, Int.reduceToNat, Nat.reduceAdd, Nat.reduceLeDiff, Nat.reduceEqDiff, Nat.reduceSub, Nat.reduceMul, reduceCtorEq]
  generalize hI : swapI m.to m.v m.fr m2.v = I
  refine loopL (σ := Nat × Nat) (fun s => ⟨[(2, .ref 2 0), (4, .int .i64 (turnK ms : Nat)), (5, .rp (encM m)), (7, .rp (encI I)), (8, .hs 8 s.2 0 ((ms.take s.1).foldl (left1 m (turnK ms)) ([], 0)).1.length), (34, .hs 0 ver 0 ms.length), (35, .int .i64 ms.length), (36, .int .i64 (s.1 : Nat))],
      [(0, .arr ver 7 (ms.map encM ++ junk)), (2, .pbox [.int .i64 0, .int .i64 0, .int .i64 0, .int .i64 0, .int .i64 0, .sl [], .str .empty, .int .i64 0, .sl [], .sl []]), (8, .arr s.2 7 (((ms.take s.1).foldl (left1 m (turnK ms)) ([], 0)).1.map encM))]⟩)
    (fun s => s.1 ≤ ms.length) (fun s => ms.length - s.1) (0, 0) (by simp (config := {maxSteps := 2000000, implicitDefEqProofs := false}) (disch := omega) only [↓reduceIte, go_sem, Int.reduceToNat, Nat.reduceAdd, Nat.reduceLeDiff, Nat.reduceEqDiff, Nat.reduceSub, Nat.reduceMul, reduceCtorEq]; rfl) (by simp) ?_
  rintro ⟨k, v⟩ hkk
  simp only at hkk
  obtain ⟨hlen, hcnt⟩ := left1_len m (turnK ms) (ms.take k) ([], 0)
  generalize hs : (ms.take k).foldl (left1 m (turnK ms)) ([], 0) = s at hlen hcnt
  obtain ⟨L, c⟩ := s
  simp only [List.length_take, List.length_nil, Nat.zero_add, Nat.min_eq_left hkk] at hlen hcnt
  rw [hcnt] at hs
  simp (config := {maxSteps := 2000000, implicitDefEqProofs := false}) (disch := omega) only [↓reduceIte, go_sem, Int.reduceToNat, Nat.reduceAdd, Nat.reduceLeDiff, Nat.reduceEqDiff, Nat.reduceSub, Nat.reduceMul, reduceCtorEq, hs]
  refine ifD (fun h1 => ?_) (fun h1 => ?_)
  · obtain ⟨o, ho⟩ : ∃ a, ms[k]? = some a := ⟨_, List.getElem?_eq_getElem (by omega)⟩
    have e3 : (ms.map encM ++ junk)[k]? = some (encM o) := by
      rw [List.getElem?_append_left (by simpa using (List.getElem?_eq_some_iff.1 ho).1), List.getElem?_map, ho]
      rfl
    have hf := foldl_take (left1 m (turnK ms)) ([], 0) ho
    rw [hs] at hf
    simp (config := {maxSteps := 2000000, implicitDefEqProofs := false}) (disch := omega) only [↓reduceIte, go_sem, Int.reduceToNat, Nat.reduceAdd, Nat.reduceLeDiff, Nat.reduceEqDiff, Nat.reduceSub, Nat.reduceMul, reduceCtorEq, e3, encM, Int.natCast_nonneg, eqL]
    refine ifD (fun h => ?_) (fun h => ?_)
    · simp (config := {maxSteps := 2000000, implicitDefEqProofs := false}) (disch := omega) only [↓reduceIte, go_sem, Int.reduceToNat, Nat.reduceAdd, Nat.reduceLeDiff, Nat.reduceEqDiff, Nat.reduceSub, Nat.reduceMul, reduceCtorEq, encM, eqL]
      refine ifE (fun h2 => ?_) (fun h2 => ?_)
      · have h2' : k = turnK ms := by omega
        simp (config := {maxSteps := 2000000, implicitDefEqProofs := false}) (disch := omega) only [↓reduceIte, go_sem, Int.reduceToNat, Nat.reduceAdd, Nat.reduceLeDiff, Nat.reduceEqDiff, Nat.reduceSub, Nat.reduceMul, reduceCtorEq, encM]
        have hf' : left1 m (turnK ms) (L, k) o = (L, k + 1) := by
          unfold left1
          simp only [if_pos h]
          rw [if_neg (by simp [h2'])]
        rw [hf'] at hf
        exact ⟨(k + 1, v), by simp [hf, encM], by simp only; omega, by simp only; omega⟩
      · have h2' : k ≠ turnK ms := by omega
        simp (config := {maxSteps := 2000000, implicitDefEqProofs := false}) (disch := omega) only [↓reduceIte, go_sem, Int.reduceToNat, Nat.reduceAdd, Nat.reduceLeDiff, Nat.reduceEqDiff, Nat.reduceSub, Nat.reduceMul, reduceCtorEq, encM, eqL]
        refine ifD (fun h3 => ?_) (fun h3 => ?_)
        · simp (config := {maxSteps := 2000000, implicitDefEqProofs := false}) (disch := omega) only [↓reduceIte, go_sem, Int.reduceToNat, Nat.reduceAdd, Nat.reduceLeDiff, Nat.reduceEqDiff, Nat.reduceSub, Nat.reduceMul, reduceCtorEq, encM]
          have hf' : left1 m (turnK ms) (L, k) o = (L, k + 1) := by
            unfold left1
            simp only [if_pos h]
            rw [if_neg (by simp [h3])]
          rw [hf'] at hf
          exact ⟨(k + 1, v), by simp [hf, encM], by simp only; omega, by simp only; omega⟩
        · simp (config := {maxSteps := 2000000, implicitDefEqProofs := false}) (disch := omega) only [↓reduceIte, go_sem, Int.reduceToNat, Nat.reduceAdd, Nat.reduceLeDiff, Nat.reduceEqDiff, Nat.reduceSub, Nat.reduceMul, reduceCtorEq, encM]
          have hf' : left1 m (turnK ms) (L, k) o = (L ++ [⟨o.v, m.fr, o.to⟩], k + 1) := by
            unfold left1
            simp only [if_pos h]
            rw [if_pos ⟨h2', h3⟩]
          rw [hf'] at hf
          exact ⟨(k + 1, v + 1), by simp [hf, encM], by simp only; omega, by simp only; omega⟩
    · simp (config := {maxSteps := 2000000, implicitDefEqProofs := false}) (disch := omega) only [↓reduceIte, go_sem, Int.reduceToNat, Nat.reduceAdd, Nat.reduceLeDiff, Nat.reduceEqDiff, Nat.reduceSub, Nat.reduceMul, reduceCtorEq, encM, eqL]
      refine ifE (fun h2 => ?_) (fun h2 => ?_)
      · have h2' : k = turnK ms := by omega
        simp (config := {maxSteps := 2000000, implicitDefEqProofs := false}) (disch := omega) only [↓reduceIte, go_sem, Int.reduceToNat, Nat.reduceAdd, Nat.reduceLeDiff, Nat.reduceEqDiff, Nat.reduceSub, Nat.reduceMul, reduceCtorEq, encM]
        have hf' : left1 m (turnK ms) (L, k) o = (L, k + 1) := by
          unfold left1
          simp only [if_neg h]
          rw [if_neg (by simp [h2'])]
        rw [hf'] at hf
        exact ⟨(k + 1, v), by simp [hf, encM], by simp only; omega, by simp only; omega⟩
      · have h2' : k ≠ turnK ms := by omega
        simp (config := {maxSteps := 2000000, implicitDefEqProofs := false}) (disch := omega) only [↓reduceIte, go_sem, Int.reduceToNat, Nat.reduceAdd, Nat.reduceLeDiff, Nat.reduceEqDiff, Nat.reduceSub, Nat.reduceMul, reduceCtorEq, encM, eqL]
        refine ifD (fun h3 => ?_) (fun h3 => ?_)
        · simp (config := {maxSteps := 2000000, implicitDefEqProofs := false}) (disch := omega) only [↓reduceIte, go_sem, Int.reduceToNat, Nat.reduceAdd, Nat.reduceLeDiff, Nat.reduceEqDiff, Nat.reduceSub, Nat.reduceMul, reduceCtorEq, encM]
          have hf' : left1 m (turnK ms) (L, k) o = (L, k + 1) := by
            unfold left1
            simp only [if_neg h]
            rw [if_neg (by simp [h3])]
          rw [hf'] at hf
          exact ⟨(k + 1, v), by simp [hf, encM], by simp only; omega, by simp only; omega⟩
        · simp (config := {maxSteps := 2000000, implicitDefEqProofs := false}) (disch := omega) only [↓reduceIte, go_sem, Int.reduceToNat, Nat.reduceAdd, Nat.reduceLeDiff, Nat.reduceEqDiff, Nat.reduceSub, Nat.reduceMul, reduceCtorEq, encM]
          have hf' : left1 m (turnK ms) (L, k) o = (L ++ [o], k + 1) := by
            unfold left1
            simp only [if_neg h]
            rw [if_pos ⟨h2', h3⟩]
          rw [hf'] at hf
          exact ⟨(k + 1, v + 1), by simp [hf, encM], by simp only; omega, by simp only; omega⟩
  · simp (config := {maxSteps := 2000000, implicitDefEqProofs := false}) (disch := omega) only [↓reduceIte, go_sem, Int.reduceToNat, Nat.reduceAdd, Nat.reduceLeDiff, Nat.reduceEqDiff, Nat.reduceSub, Nat.reduceMul, reduceCtorEq, encI]
    have : k = ms.length := by omega
    subst this
    rw [List.take_length] at hs
    have : leftL m (turnK ms) ms = L := by rw [leftL, hs]
    rw [this]
    exact ⟨v, rfl, rfl⟩
end Go.Proofs.Ytapfnhhedieebaa.X
