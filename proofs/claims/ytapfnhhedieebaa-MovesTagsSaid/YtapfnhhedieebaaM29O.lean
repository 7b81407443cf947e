import Derived.Test.YtapfnhhedieebaaM29N
namespace Go.Proofs.Ytapfnhhedieebaa.X
open Go Go.AM Go.Proofs
attribute [local go_sem ↓] w_skip w_lbl w_ops w_draw w_pre w_post w_seq w_cond w_block w_loop w_exit w_ret w_scope th_n th_e th_r bk_n bk_r bk_e t_nil t_it t_call i_nil i_one i_grp s_nil s_cons c_call e_mv e_frz o_mov o_bin o_eq o_un o_conv o_len o_slen o_idx o_aix o_fad o_load o_store o_boxp o_boxo o_boxm o_alloc o_alloca o_nilarr o_build o_bslp o_bslo o_slc o_sslc o_slc3 o_sidx o_mkfn o_ext o_pick o_callf o_callb o_appd o_clear o_mxn o_field o_nilc o_make k_int k_str k_bool k_grb k_grt k_some k_none k_arr k_lens k_lenf k_lenh k_idxs k_idxf k_idxh k_ld k_loadp k_loadr k_loade k_storer k_storee k_oin k_ois k_slcs k_slcf k_slch k_slc3s k_slc3f k_slc3h k_app2 k_apps k_appf k_apph k_cals k_cald b_add b_sub b_mul b_quo b_rem b_and b_or b_xor b_andNot b_eql b_neq b_lss b_leq b_gtr b_geq b_shl b_shr b_seq b_sne b_slt b_sad q_bool q_str q_nil q_nilf u_not u_neg u_xor f_ret f_nor v_r v_c v_reg v_ob v_set v_put v_so v_sn v_pn v_pc g_nil d_nil p_nil m_mv m_fr z_nil z_cons z_an z_ac g_cons d_cons p_cons y_mov y_bin y_eq y_un y_conv y_len y_slen y_idx y_aix y_fad y_load y_store y_boxp y_boxo y_boxm y_alloc y_alloca y_nilarr y_build y_bslp y_bslo y_slc y_sslc y_slc3 y_sidx y_mkfn y_ext y_pick y_callf y_callb y_appd y_clear y_mxn y_field y_nilc y_make nb_if
attribute [local go_sem] VL_mk VL2_mk If_t If_f If_not If_and If_or If_dt If_df If_et If_ef If_ne Ck_t Ck_h Opt_s ld_a ld_c renL ren keepR renA idxM invL getObs mapOb renOb allNone putAll fzR fzO fz fzL fzOb frzOk upFrom mapR resOne resA cellsOf oneA oneAL isP isPL okSt kRows kParts fillA setAt bor bor0 key0 keysA scalar eqC evNil evNilF List.map_cons List.map_nil List.cons_append List.nil_append List.append_nil List.drop_zero List.drop_succ_cons List.drop_nil List.take_succ_cons List.take_zero List.take_nil List.length_cons List.length_nil List.length_map List.getElem?_map Option.map_some Option.map_none Int.toNat_natCast Int.toNat_zero Int.toNat_one Int.natCast_nonneg List.flatMap_cons List.flatMap_nil List.all_cons List.all_nil Bool.and_true Bool.true_and Bool.and_false Bool.false_and Bool.not_true Bool.not_false beq_self_eq_true nb_self all_nil List.forall_mem_cons tk_map tk_app bs_self bs_dec bq_t bq_f Bool.not_not decide_true decide_false Bool.not_not and_self and_true true_and eq_self List.reverse_cons List.reverse_nil List.getElem?_cons_zero List.getElem?_cons_succ cond_true cond_false List.set_cons_zero List.set_cons_succ Nat.zero_add Nat.add_zero if_true if_false ite_true ite_false implies_true wrap64 wrap8
set_option linter.unusedVariables false
set_option linter.unusedSimpArgs false
set_option maxRecDepth 10000
/-! The chapter's table of operations. -/
def rowA (n d : ByteArray) (a : List ByteArray) (k : Int) (b : Bool) : List AV := [.str n, .str d, .sl (a.map fun s => [.str s]), .int .i64 k, .bool b]
def twoA : List ByteArray := [⟨#[97, 100, 100]⟩, ⟨#[115, 117, 98]⟩, ⟨#[109, 117, 108]⟩, ⟨#[97, 110, 100]⟩, ⟨#[111, 114]⟩, ⟨#[120, 111, 114]⟩, ⟨#[115, 104, 108]⟩, ⟨#[115, 104, 114]⟩, ⟨#[115, 97, 114]⟩, ⟨#[100, 105, 118]⟩, ⟨#[114, 101, 109]⟩, ⟨#[101, 113]⟩, ⟨#[110, 101]⟩, ⟨#[108, 116]⟩, ⟨#[108, 101]⟩]
def rowTwo (s : ByteArray) : List AV := rowA s ⟨#[103]⟩ [⟨#[103]⟩, ⟨#[103, 105]⟩] 0 false
def tabB : List (List AV) := [rowA ⟨#[99, 111, 112, 121]⟩ ⟨#[103, 120]⟩ [⟨#[103, 120, 105]⟩] 0 false,
  rowA ⟨#[108, 111, 97, 100]⟩ ⟨#[103]⟩ [⟨#[120]⟩] 0 false,
  rowA ⟨#[115, 116, 111, 114, 101]⟩ .empty [⟨#[103]⟩, ⟨#[120]⟩] 0 false,
  rowA ⟨#[99, 97, 108, 108]⟩ ⟨#[103, 110]⟩ [⟨#[103, 105, 115]⟩, ⟨#[103, 105, 115]⟩, ⟨#[103, 105, 115]⟩, ⟨#[103, 105, 115]⟩, ⟨#[103, 105, 115]⟩, ⟨#[103, 105, 115]⟩, ⟨#[103, 105, 115]⟩, ⟨#[103, 105, 115]⟩] 0 false,
  rowA ⟨#[98, 114]⟩ .empty [] 1 false,
  rowA ⟨#[98, 114, 105, 102]⟩ .empty [⟨#[103]⟩] 2 false,
  rowA ⟨#[115, 119, 105, 116, 99, 104]⟩ .empty [⟨#[103]⟩] (-1) false,
  rowA ⟨#[114, 101, 116]⟩ .empty [⟨#[103, 105]⟩] 0 false,
  rowA ⟨#[109, 111, 118, 101]⟩ ⟨#[103, 120]⟩ [⟨#[103, 120]⟩] 0 true,
  rowA ⟨#[115, 112, 105, 108, 108]⟩ ⟨#[115]⟩ [⟨#[103, 120]⟩] 0 true,
  rowA ⟨#[114, 101, 108, 111, 97, 100]⟩ ⟨#[103, 120]⟩ [⟨#[115]⟩] 0 true,
  rowA ⟨#[115, 119, 97, 112]⟩ .empty [⟨#[103, 120, 115]⟩, ⟨#[103, 120, 115]⟩] 0 true]
def tab : List (List AV) := twoA.map rowTwo ++ tabB
theorem C43 : Ctr Try.prog 43 [] [] (ret [.sl tab]) := by
  apply ctr_b A43_ok rfl (Nat.le_of_ble_eq_true rfl)
  unfold A43
  simp only [initL, Nat.reduceAdd]
  simp (config := {maxSteps := 2000000, implicitDefEqProofs := false}) (disch := omega) only [↓reduceIte, go_sem, Int.reduceToNat, Nat.reduceAdd, Nat.reduceLeDiff, Nat.reduceEqDiff, Nat.reduceSub, Nat.reduceMul, reduceCtorEq]
  refine loopL (σ := Nat × Nat) (fun s => ⟨[(1, .hs 1 s.2 0 s.1), (2, .sl (twoA.map fun s => [.str s])), (3, .int .i64 (s.1 : Nat))], [(1, .arr s.2 5 ((twoA.take s.1).map rowTwo))]⟩) (fun s => s.1 ≤ 15) (fun s => 15 - s.1) (0, 0) (by simp (config := {maxSteps := 2000000, implicitDefEqProofs := false}) (disch := omega) only [↓reduceIte, go_sem, Int.reduceToNat, Nat.reduceAdd, Nat.reduceLeDiff, Nat.reduceEqDiff, Nat.reduceSub, Nat.reduceMul, reduceCtorEq]; rfl) (by simp) ?_
  rintro ⟨k, v⟩ hk
  simp only at hk
  have hlt : (twoA.take k).length = k := by rw [List.length_take_of_le]; exact hk
  simp (config := {maxSteps := 2000000, implicitDefEqProofs := false}) (disch := omega) only [↓reduceIte, go_sem, Int.reduceToNat, Nat.reduceAdd, Nat.reduceLeDiff, Nat.reduceEqDiff, Nat.reduceSub, Nat.reduceMul, reduceCtorEq]
  refine ifD (fun h1 => ?_) (fun h1 => ?_)
  · obtain ⟨s, hs⟩ : ∃ a, twoA[k]? = some a := ⟨_, List.getElem?_eq_getElem (by show k < 15; omega)⟩
    simp (config := {maxSteps := 2000000, implicitDefEqProofs := false}) (disch := omega) only [↓reduceIte, go_sem, Int.reduceToNat, Nat.reduceAdd, Nat.reduceLeDiff, Nat.reduceEqDiff, Nat.reduceSub, Nat.reduceMul, reduceCtorEq, hs, hlt]
    refine ⟨(k + 1, v + 1), ?_, by simp only; omega, by simp only; omega⟩
    simp only
    rw [List.take_add_one, hs]
    simp [rowTwo, rowA]
  · have : k = 15 := by omega
    subst this
    have e : twoA.take 15 = twoA := rfl
    have e2 : twoA.length = 15 := rfl
    simp (config := {maxSteps := 2000000, implicitDefEqProofs := false}) (disch := omega) only [↓reduceIte, go_sem, Int.reduceToNat, Nat.reduceAdd, Nat.reduceLeDiff, Nat.reduceEqDiff, Nat.reduceSub, Nat.reduceMul, reduceCtorEq, e, e2, List.length_append]
    refine ⟨?_, rfl⟩
    rw [List.take_of_length_le (by simp [e2])]
    rfl
def hasS (s : ByteArray) (c : Int) : Bool := s.data.toList.any (fun b => ((b.toNat : Int) == c))
theorem ba_get (s : ByteArray) (i : Nat) (h : i < s.size) : s[i]? = some s[i] := by simp [h]
theorem ba_list (s : ByteArray) (i : Nat) (h : i < s.size) : s.data.toList[i]? = some s[i] := by
  have h' : i < s.data.toList.length := by rw [Array.length_toList]; exact h
  rw [List.getElem?_eq_getElem h', Array.getElem_toList]
  rfl
theorem C34 (s : ByteArray) (c : Int) (hs : s.size ≤ 9223372036854775807) : Ctr Try.prog 34 [.str s, .int .u8 c] [] (ret [.bool (hasS s c)]) := by
  apply ctr_b A34_ok rfl (Nat.le_of_ble_eq_true rfl)
  unfold A34
  simp only [initL, Nat.reduceAdd]
  simp (config := {maxSteps := 2000000, implicitDefEqProofs := false}) (disch := omega) only [↓reduceIte, go_sem, Int.reduceToNat, Nat.reduceAdd, Nat.reduceLeDiff, Nat.reduceEqDiff, Nat.reduceSub, Nat.reduceMul, reduceCtorEq]
  refine loopL (σ := Nat) (fun k => ⟨[(0, .str s), (1, .int .u8 c), (5, .int .i64 (k : Nat))], []⟩) (fun k => k ≤ s.size ∧ (s.data.toList.take k).any (fun b => ((b.toNat : Int) == c)) = false) (fun k => s.size - k) 0 (by simp (config := {maxSteps := 2000000, implicitDefEqProofs := false}) (disch := omega) only [↓reduceIte, go_sem, Int.reduceToNat, Nat.reduceAdd, Nat.reduceLeDiff, Nat.reduceEqDiff, Nat.reduceSub, Nat.reduceMul, reduceCtorEq]; rfl) ⟨by simp, by simp⟩ ?_
  rintro k ⟨hk, hn⟩
  simp (config := {maxSteps := 2000000, implicitDefEqProofs := false}) (disch := omega) only [↓reduceIte, go_sem, Int.reduceToNat, Nat.reduceAdd, Nat.reduceLeDiff, Nat.reduceEqDiff, Nat.reduceSub, Nat.reduceMul, reduceCtorEq]
  refine ifD (fun h1 => ?_) (fun h1 => ?_)
  · have h1 : k < s.size := by omega
    have hg := ba_get s k h1
    have hl := ba_list s k h1
    generalize s[k] = b at hg hl
    simp (config := {maxSteps := 2000000, implicitDefEqProofs := false}) (disch := omega) only [↓reduceIte, go_sem, Int.reduceToNat, Nat.reduceAdd, Nat.reduceLeDiff, Nat.reduceEqDiff, Nat.reduceSub, Nat.reduceMul, reduceCtorEq, hg]
    refine ifE (fun h2 => ?_) (fun h2 => ?_)
    · simp (config := {maxSteps := 2000000, implicitDefEqProofs := false}) (disch := omega) only [↓reduceIte, go_sem, Int.reduceToNat, Nat.reduceAdd, Nat.reduceLeDiff, Nat.reduceEqDiff, Nat.reduceSub, Nat.reduceMul, reduceCtorEq]
      refine ⟨?_, rfl⟩
      have : hasS s c = true := by
        unfold hasS
        rw [List.any_eq_true]
        exact ⟨b, List.mem_of_getElem? hl, by simpa using h2⟩
      rw [this]
    · simp (config := {maxSteps := 2000000, implicitDefEqProofs := false}) (disch := omega) only [↓reduceIte, go_sem, Int.reduceToNat, Nat.reduceAdd, Nat.reduceLeDiff, Nat.reduceEqDiff, Nat.reduceSub, Nat.reduceMul, reduceCtorEq]
      refine ⟨k + 1, by simp, ⟨by omega, ?_⟩, by omega⟩
      rw [any_take _ hl, hn]
      simpa using h2
  · simp (config := {maxSteps := 2000000, implicitDefEqProofs := false}) (disch := omega) only [↓reduceIte, go_sem, Int.reduceToNat, Nat.reduceAdd, Nat.reduceLeDiff, Nat.reduceEqDiff, Nat.reduceSub, Nat.reduceMul, reduceCtorEq]
    refine ⟨?_, rfl⟩
    have : k = s.data.toList.length := by rw [Array.length_toList]; show k = s.size; omega
    rw [this, List.take_length] at hn
    rw [hasS, hn]
theorem C33 (k : Nat) (n d : ByteArray) (ar : List ByteArray) (l : Int) (al : Bool) (hr : tab[k]? = some (rowA n d ar l al)) (hk : k < 100) : Ctr Try.prog 33 [.int .i64 ((k : Int) + 1)] [] (ret [.agg (rowA n d ar l al), .bool true]) := by
  apply ctr_b A33_ok rfl (Nat.le_of_ble_eq_true rfl)
  unfold A33
  simp only [initL, Nat.reduceAdd]
  have hlt := (List.getElem?_eq_some_iff.1 hr).1
  have hx : ((k : Int) + 1 - 1).toNat = k := by omega
  simp (config := {maxSteps := 2000000, implicitDefEqProofs := false}) (disch := omega) only [↓reduceIte, go_sem, Int.reduceToNat, Nat.reduceAdd, Nat.reduceLeDiff, Nat.reduceEqDiff, Nat.reduceSub, Nat.reduceMul, reduceCtorEq]
  refine callL C43 ?_
  simp (config := {maxSteps := 2000000, implicitDefEqProofs := false}) (disch := omega) only [↓reduceIte, go_sem, Int.reduceToNat, Nat.reduceAdd, Nat.reduceLeDiff, Nat.reduceEqDiff, Nat.reduceSub, Nat.reduceMul, reduceCtorEq, hx, hr, rowA]
  exact ⟨rfl, rfl⟩
theorem C32d (k : Nat) (n d : ByteArray) (ar : List ByteArray) (l : Int) (al : Bool) (hr : tab[k]? = some (rowA n d ar l al)) (hk : k < 100) : Ctr Try.prog 32 [.int .i64 ((k : Int) + 1), .int .i64 (-1)] [] (ret [.str d]) := by
  apply ctr_b A32_ok rfl (Nat.le_of_ble_eq_true rfl)
  unfold A32
  simp only [initL, Nat.reduceAdd]
  simp (config := {maxSteps := 2000000, implicitDefEqProofs := false}) (disch := omega) only [↓reduceIte, go_sem, Int.reduceToNat, Nat.reduceAdd, Nat.reduceLeDiff, Nat.reduceEqDiff, Nat.reduceSub, Nat.reduceMul, reduceCtorEq]
  refine callL (C33 k n d ar l al hr hk) ?_
  simp (config := {maxSteps := 2000000, implicitDefEqProofs := false}) (disch := omega) only [↓reduceIte, go_sem, Int.reduceToNat, Nat.reduceAdd, Nat.reduceLeDiff, Nat.reduceEqDiff, Nat.reduceSub, Nat.reduceMul, reduceCtorEq, rowA]
  exact ⟨rfl, rfl⟩
theorem C32a (k : Nat) (n d : ByteArray) (ar : List ByteArray) (l : Int) (al : Bool) (hr : tab[k]? = some (rowA n d ar l al)) (hk : k < 100) (i : Nat) (s : ByteArray) (hi : ar[i]? = some s) (hi9 : i < 100) : Ctr Try.prog 32 [.int .i64 ((k : Int) + 1), .int .i64 (i : Nat)] [] (ret [.str s]) := by
  apply ctr_b A32_ok rfl (Nat.le_of_ble_eq_true rfl)
  unfold A32
  simp only [initL, Nat.reduceAdd]
  have hlt := (List.getElem?_eq_some_iff.1 hi).1
  simp (config := {maxSteps := 2000000, implicitDefEqProofs := false}) (disch := omega) only [↓reduceIte, go_sem, Int.reduceToNat, Nat.reduceAdd, Nat.reduceLeDiff, Nat.reduceEqDiff, Nat.reduceSub, Nat.reduceMul, reduceCtorEq]
  refine callL (C33 k n d ar l al hr hk) ?_
  simp (config := {maxSteps := 2000000, implicitDefEqProofs := false}) (disch := omega) only [↓reduceIte, go_sem, Int.reduceToNat, Nat.reduceAdd, Nat.reduceLeDiff, Nat.reduceEqDiff, Nat.reduceSub, Nat.reduceMul, reduceCtorEq, rowA, hi]
  exact ⟨rfl, rfl⟩
theorem C17g (k : Nat) (n d : ByteArray) (ar : List ByteArray) (l : Int) (al : Bool) (i kind : Int) (p : ByteArray) (hr : tab[k]? = some (rowA n d ar l al)) (hk : k < 100) (hp : Ctr Try.prog 32 [.int .i64 ((k : Int) + 1), .int .i64 i] [] (ret [.str p])) (hps : p.size < 100)
    (hkind : (kind = 0 ∧ i = -1 ∧ p = .empty) ∨ (kind = 2 ∧ hasS p 103 = true) ∨ (kind = 3 ∧ hasS p 115 = true)) : Ctr Try.prog 17 [.int .i64 ((k : Int) + 1), .int .i64 i, .int .i64 kind, .bool true] [] (ret [.bool true]) := by
  apply ctr_b A17_ok rfl (Nat.le_of_ble_eq_true rfl)
  unfold A17
  simp only [initL, Nat.reduceAdd]
  simp (config := {maxSteps := 2000000, implicitDefEqProofs := false}) (disch := omega) only [↓reduceIte, go_sem, Int.reduceToNat, Nat.reduceAdd, Nat.reduceLeDiff, Nat.reduceEqDiff, Nat.reduceSub, Nat.reduceMul, reduceCtorEq]
  refine callL hp ?_
  simp (config := {maxSteps := 2000000, implicitDefEqProofs := false}) (disch := omega) only [↓reduceIte, go_sem, Int.reduceToNat, Nat.reduceAdd, Nat.reduceLeDiff, Nat.reduceEqDiff, Nat.reduceSub, Nat.reduceMul, reduceCtorEq]
  refine callL (C33 k n d ar l al hr hk) ?_
  simp (config := {maxSteps := 2000000, implicitDefEqProofs := false}) (disch := omega) only [↓reduceIte, go_sem, Int.reduceToNat, Nat.reduceAdd, Nat.reduceLeDiff, Nat.reduceEqDiff, Nat.reduceSub, Nat.reduceMul, reduceCtorEq, rowA]
  refine callL (C34 p 103 (by omega)) ?_
  simp (config := {maxSteps := 2000000, implicitDefEqProofs := false}) (disch := omega) only [↓reduceIte, go_sem, Int.reduceToNat, Nat.reduceAdd, Nat.reduceLeDiff, Nat.reduceEqDiff, Nat.reduceSub, Nat.reduceMul, reduceCtorEq]
  have e0 : (ByteArray.empty = ⟨#[]⟩) = True := eq_true rfl
  cases h3 : hasS p 103
  · simp (config := {maxSteps := 2000000, implicitDefEqProofs := false}) (disch := omega) only [↓reduceIte, go_sem, Int.reduceToNat, Nat.reduceAdd, Nat.reduceLeDiff, Nat.reduceEqDiff, Nat.reduceSub, Nat.reduceMul, reduceCtorEq]
    refine callL (C34 p 120 (by omega)) ?_
    rcases hkind with ⟨rfl, rfl, rfl⟩ | ⟨rfl, hh⟩ | ⟨rfl, hh⟩
    · simp (config := {maxSteps := 2000000, implicitDefEqProofs := false}) (disch := omega) only [↓reduceIte, go_sem, Int.reduceToNat, Nat.reduceAdd, Nat.reduceLeDiff, Nat.reduceEqDiff, Nat.reduceSub, Nat.reduceMul, reduceCtorEq, e0]
      exact ⟨rfl, rfl⟩
    · rw [h3] at hh; cases hh
    · simp (config := {maxSteps := 2000000, implicitDefEqProofs := false}) (disch := omega) only [↓reduceIte, go_sem, Int.reduceToNat, Nat.reduceAdd, Nat.reduceLeDiff, Nat.reduceEqDiff, Nat.reduceSub, Nat.reduceMul, reduceCtorEq]
      refine callL (C34 p 115 (by omega)) ?_
      simp (config := {maxSteps := 2000000, implicitDefEqProofs := false}) (disch := omega) only [↓reduceIte, go_sem, Int.reduceToNat, Nat.reduceAdd, Nat.reduceLeDiff, Nat.reduceEqDiff, Nat.reduceSub, Nat.reduceMul, reduceCtorEq, hh]
      exact ⟨rfl, rfl⟩
  · simp (config := {maxSteps := 2000000, implicitDefEqProofs := false}) (disch := omega) only [↓reduceIte, go_sem, Int.reduceToNat, Nat.reduceAdd, Nat.reduceLeDiff, Nat.reduceEqDiff, Nat.reduceSub, Nat.reduceMul, reduceCtorEq]
    rcases hkind with ⟨rfl, rfl, rfl⟩ | ⟨rfl, hh⟩ | ⟨rfl, hh⟩
    · simp (config := {maxSteps := 2000000, implicitDefEqProofs := false}) (disch := omega) only [↓reduceIte, go_sem, Int.reduceToNat, Nat.reduceAdd, Nat.reduceLeDiff, Nat.reduceEqDiff, Nat.reduceSub, Nat.reduceMul, reduceCtorEq, e0]
      exact ⟨rfl, rfl⟩
    · simp (config := {maxSteps := 2000000, implicitDefEqProofs := false}) (disch := omega) only [↓reduceIte, go_sem, Int.reduceToNat, Nat.reduceAdd, Nat.reduceLeDiff, Nat.reduceEqDiff, Nat.reduceSub, Nat.reduceMul, reduceCtorEq]
      exact ⟨rfl, rfl⟩
    · simp (config := {maxSteps := 2000000, implicitDefEqProofs := false}) (disch := omega) only [↓reduceIte, go_sem, Int.reduceToNat, Nat.reduceAdd, Nat.reduceLeDiff, Nat.reduceEqDiff, Nat.reduceSub, Nat.reduceMul, reduceCtorEq]
      refine callL (C34 p 115 (by omega)) ?_
      simp (config := {maxSteps := 2000000, implicitDefEqProofs := false}) (disch := omega) only [↓reduceIte, go_sem, Int.reduceToNat, Nat.reduceAdd, Nat.reduceLeDiff, Nat.reduceEqDiff, Nat.reduceSub, Nat.reduceMul, reduceCtorEq, hh]
      exact ⟨rfl, rfl⟩
theorem C17 (op i kind : Int) (h : okT op i kind) : Ctr Try.prog 17 [.int .i64 op, .int .i64 i, .int .i64 kind, .bool true] [] (ret [.bool true]) := by
  have r24 : tab[23]? = some (rowA ⟨#[109, 111, 118, 101]⟩ ⟨#[103, 120]⟩ [⟨#[103, 120]⟩] 0 true) := rfl
  have r25 : tab[24]? = some (rowA ⟨#[115, 112, 105, 108, 108]⟩ ⟨#[115]⟩ [⟨#[103, 120]⟩] 0 true) := rfl
  have r26 : tab[25]? = some (rowA ⟨#[114, 101, 108, 111, 97, 100]⟩ ⟨#[103, 120]⟩ [⟨#[115]⟩] 0 true) := rfl
  have r27 : tab[26]? = some (rowA ⟨#[115, 119, 97, 112]⟩ .empty [⟨#[103, 120, 115]⟩, ⟨#[103, 120, 115]⟩] 0 true) := rfl
  rcases h with ⟨rfl, hi, rfl⟩ | ⟨rfl, ⟨rfl, rfl⟩ | ⟨rfl, rfl⟩⟩ | ⟨rfl, ⟨rfl, rfl⟩ | ⟨rfl, rfl⟩⟩ | ⟨rfl, ⟨rfl, rfl⟩ | ⟨hi, hk⟩⟩
  · rcases hi with rfl | rfl
    · exact C17g 23 _ _ _ _ _ (-1) 2 _ r24 (by decide) (C32d 23 _ _ _ _ _ r24 (by decide)) (by decide) (.inr (.inl ⟨rfl, by decide⟩))
    · exact C17g 23 _ _ _ _ _ 0 2 _ r24 (by decide) (C32a 23 _ _ _ _ _ r24 (by decide) 0 _ rfl (by decide)) (by decide) (.inr (.inl ⟨rfl, by decide⟩))
  · exact C17g 24 _ _ _ _ _ (-1) 3 _ r25 (by decide) (C32d 24 _ _ _ _ _ r25 (by decide)) (by decide) (.inr (.inr ⟨rfl, by decide⟩))
  · exact C17g 24 _ _ _ _ _ 0 2 _ r25 (by decide) (C32a 24 _ _ _ _ _ r25 (by decide) 0 _ rfl (by decide)) (by decide) (.inr (.inl ⟨rfl, by decide⟩))
  · exact C17g 25 _ _ _ _ _ (-1) 2 _ r26 (by decide) (C32d 25 _ _ _ _ _ r26 (by decide)) (by decide) (.inr (.inl ⟨rfl, by decide⟩))
  · exact C17g 25 _ _ _ _ _ 0 3 _ r26 (by decide) (C32a 25 _ _ _ _ _ r26 (by decide) 0 _ rfl (by decide)) (by decide) (.inr (.inr ⟨rfl, by decide⟩))
  · exact C17g 26 _ _ _ _ _ (-1) 0 _ r27 (by decide) (C32d 26 _ _ _ _ _ r27 (by decide)) (by decide) (.inl ⟨rfl, rfl, rfl⟩)
  · rcases hi with rfl | rfl <;> rcases hk with rfl | rfl
    · exact C17g 26 _ _ _ _ _ 0 2 _ r27 (by decide) (C32a 26 _ _ _ _ _ r27 (by decide) 0 _ rfl (by decide)) (by decide) (.inr (.inl ⟨rfl, by decide⟩))
    · exact C17g 26 _ _ _ _ _ 0 3 _ r27 (by decide) (C32a 26 _ _ _ _ _ r27 (by decide) 0 _ rfl (by decide)) (by decide) (.inr (.inr ⟨rfl, by decide⟩))
    · exact C17g 26 _ _ _ _ _ 1 2 _ r27 (by decide) (C32a 26 _ _ _ _ _ r27 (by decide) 1 _ rfl (by decide)) (by decide) (.inr (.inl ⟨rfl, by decide⟩))
    · exact C17g 26 _ _ _ _ _ 1 3 _ r27 (by decide) (C32a 26 _ _ _ _ _ r27 (by decide) 1 _ rfl (by decide)) (by decide) (.inr (.inr ⟨rfl, by decide⟩))
end Go.Proofs.Ytapfnhhedieebaa.X
