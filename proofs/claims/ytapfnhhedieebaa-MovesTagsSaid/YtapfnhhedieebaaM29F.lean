import Derived.Test.YtapfnhhedieebaaM29E
namespace Go.Proofs.Ytapfnhhedieebaa.X
open Go Go.AM Go.Proofs
attribute [local go_sem ↓] w_skip w_lbl w_ops w_draw w_pre w_post w_seq w_cond w_block w_loop w_exit w_ret w_scope th_n th_e th_r bk_n bk_r bk_e t_nil t_it t_call i_nil i_one i_grp s_nil s_cons c_call e_mv e_frz o_mov o_bin o_eq o_un o_conv o_len o_slen o_idx o_aix o_fad o_load o_store o_boxp o_boxo o_boxm o_alloc o_alloca o_nilarr o_build o_bslp o_bslo o_slc o_sslc o_slc3 o_sidx o_mkfn o_ext o_pick o_callf o_callb o_appd o_clear o_mxn o_field o_nilc o_make k_int k_str k_bool k_grb k_grt k_some k_none k_arr k_lens k_lenf k_lenh k_idxs k_idxf k_idxh k_ld k_loadp k_loadr k_loade k_storer k_storee k_oin k_ois k_slcs k_slcf k_slch k_slc3s k_slc3f k_slc3h k_app2 k_apps k_appf k_apph k_cals k_cald b_add b_sub b_mul b_quo b_rem b_and b_or b_xor b_andNot b_eql b_neq b_lss b_leq b_gtr b_geq b_shl b_shr b_seq b_sne b_slt b_sad q_bool q_str q_nil q_nilf u_not u_neg u_xor f_ret f_nor v_r v_c v_reg v_ob v_set v_put v_so v_sn v_pn v_pc g_nil d_nil p_nil m_mv m_fr z_nil z_cons z_an z_ac g_cons d_cons p_cons y_mov y_bin y_eq y_un y_conv y_len y_slen y_idx y_aix y_fad y_load y_store y_boxp y_boxo y_boxm y_alloc y_alloca y_nilarr y_build y_bslp y_bslo y_slc y_sslc y_slc3 y_sidx y_mkfn y_ext y_pick y_callf y_callb y_appd y_clear y_mxn y_field y_nilc y_make nb_if
attribute [local go_sem] VL_mk VL2_mk If_t If_f If_not If_and If_or If_dt If_df If_et If_ef If_ne Ck_t Ck_h Opt_s ld_a ld_c renL ren keepR renA idxM invL getObs mapOb renOb allNone putAll fzR fzO fz fzL fzOb frzOk upFrom mapR resOne resA cellsOf oneA oneAL isP isPL okSt kRows kParts fillA setAt bor bor0 key0 keysA scalar eqC evNil evNilF List.map_cons List.map_nil List.cons_append List.nil_append List.append_nil List.drop_zero List.drop_succ_cons List.drop_nil List.take_succ_cons List.take_zero List.take_nil List.length_cons List.length_nil List.length_map List.getElem?_map Option.map_some Option.map_none Int.toNat_natCast Int.toNat_zero Int.toNat_one Int.natCast_nonneg List.flatMap_cons List.flatMap_nil List.all_cons List.all_nil Bool.and_true Bool.true_and Bool.and_false Bool.false_and Bool.not_true Bool.not_false beq_self_eq_true nb_self all_nil List.forall_mem_cons tk_map tk_app bs_self bs_dec bq_t bq_f Bool.not_not decide_true decide_false Bool.not_not and_self and_true true_and eq_self List.reverse_cons List.reverse_nil List.getElem?_cons_zero List.getElem?_cons_succ cond_true cond_false List.set_cons_zero List.set_cons_succ Nat.zero_add Nat.add_zero if_true if_false ite_true ite_false implies_true wrap64 wrap8
set_option linter.unusedVariables false
set_option linter.unusedSimpArgs false
set_option maxRecDepth 10000
def refK (f : List Move) : Nat := match f.findIdx? (fun m => m.fr.kind == 2) with | some k => k | none => f.length - 1
theorem refK_lt {f : List Move} (h : f ≠ []) : refK f < f.length := by
  have : 0 < f.length := List.length_pos_iff.2 h
  unfold refK
  split
  · rename_i k hk
    rw [List.findIdx?_eq_some_iff_getElem] at hk
    exact hk.1
  · omega
def orderG : Nat → List Move → List Ins
  | 0, _ => []
  | n + 1, f => if f = [] then [] else match f.findIdx? (open_ f) with
    | some k => one f[k]! :: orderG n (f.eraseIdx k)
    | none => turnI f (refK f) :: orderG n (leftL f[refK f]! (refK f) f)
theorem leftL_len' {f : List Move} {k : Nat} (m : Move) (h : k < f.length) : (leftL m k f).length < f.length := by
  have := left1_lt m k f ([], 0) (Nat.zero_le _) (by simpa using h)
  simp only [List.length_nil, Nat.zero_add] at this
  exact this
theorem orderG_fuel : ∀ (n : Nat) (f : List Move) (j : Nat), f.length ≤ n → f.length ≤ j → orderG n f = orderG j f
  | 0, f, j, h, hj => by
    have : f = [] := List.length_eq_zero_iff.1 (by omega)
    subst this
    cases j <;> simp [orderG]
  | n + 1, f, 0, h, hj => by
    have : f = [] := List.length_eq_zero_iff.1 (by omega)
    subst this
    simp [orderG]
  | n + 1, f, j + 1, h, hj => by
    simp only [orderG]
    by_cases hf : f = []
    · simp [hf]
    · rw [if_neg hf, if_neg hf]
      split
      · rename_i k hk
        rw [List.findIdx?_eq_some_iff_getElem] at hk
        obtain ⟨hk, _⟩ := hk
        have := List.length_eraseIdx_of_lt hk
        rw [orderG_fuel n _ j (by omega) (by omega)]
      · have := leftL_len' f[refK f]! (refK_lt hf)
        rw [orderG_fuel n _ j (by omega) (by omega)]
def refOrder (l : List Move) : List Ins := orderG (split l).1.length (split l).1 ++ (split l).2.map one
theorem any_take {α : Type} (p : α → Bool) {l : List α} {k : Nat} {m : α} (h : l[k]? = some m) : (l.take (k + 1)).any p = ((l.take k).any p || p m) := by
  rw [List.take_add_one, h]
  simp
theorem refK_at {f : List Move} {j : Nat} {m : Move} (hn : ∀ x ∈ f.take j, (x.fr.kind == 2) = false) (hm : f[j]? = some m) (h : m.fr.kind = 2 ∨ j + 1 = f.length) : refK f = j := by
  have hj := (List.getElem?_eq_some_iff.1 hm).1
  unfold refK
  by_cases h2 : m.fr.kind = 2
  · have h5 := idxOf_at (p := fun m : Move => m.fr.kind == 2) hm (by simp [h2]) hn
    unfold idxOf at h5
    split at h5
    · rename_i i hi
      rw [hi]
      simp only
      omega
    · omega
  · have : f.findIdx? (fun m => m.fr.kind == 2) = none := by
      rw [List.findIdx?_eq_none_iff]
      intro x hx
      have e : f = f.take j ++ [m] := by
        have h3 : j + 1 = f.length := h.resolve_left h2
        have h4 : f.take (j + 1) = f.take j ++ [m] := by rw [List.take_add_one, hm]; rfl
        rw [← h4, h3, List.take_length]
      rw [e] at hx
      rcases List.mem_append.1 hx with hx | hx
      · exact hn x hx
      · simp at hx
        rw [hx]
        simp [h2]
    rw [this]
    simp only
    have := h.resolve_left h2
    omega
theorem idxOf_kOf {p : Move → Bool} {l : List Move} (h : l.any p = true) : idxOf p l = (kOf p l : Int) := by
  have := idxOf_any p l
  rw [h, decide_eq_true_iff] at this
  unfold idxOf kOf at *
  cases hh : l.findIdx? p with
  | none => rw [hh] at this; simp at this
  | some k => simp
set_option maxHeartbeats 4000000 in
theorem C13 (ms : List Move) (hl : ms.length < 100000) : Ctr Try.prog 13 [.sl (ms.map encM)] [] (ret [.sl ((refOrder ms).map encI)]) := by
  apply ctr_b A13_ok rfl (Nat.le_of_ble_eq_true rfl)
  unfold A13
  simp only [initL, Nat.reduceAdd]
  simp (config := {maxSteps := 2000000, implicitDefEqProofs := false}) (disch := omega) only [↓reduceIte, go_sem, Int.reduceToNat, Nat.reduceAdd, Nat.reduceLeDiff, Nat.reduceEqDiff, Nat.reduceSub, Nat.reduceMul, reduceCtorEq]
  refine loopL (σ := Nat × Nat × Nat) (fun s => ⟨[(0, .sl (ms.map encM)), (3, .hs 3 s.2.1 0 ((ms.take s.1).foldl split1 ([], [])).1.length), (4, .hs 4 s.2.2 0 ((ms.take s.1).foldl split1 ([], [])).2.length), (5, .int .i64 (s.1 : Nat))],
      [(3, .arr s.2.1 7 (((ms.take s.1).foldl split1 ([], [])).1.map encM)), (4, .arr s.2.2 7 (((ms.take s.1).foldl split1 ([], [])).2.map encM))]⟩)
    (fun s => s.1 ≤ ms.length ∧ ((ms.take s.1).foldl split1 ([], [])).1.length + ((ms.take s.1).foldl split1 ([], [])).2.length ≤ s.1) (fun s => ms.length - s.1) (0, 0, 0) (by simp (config := {maxSteps := 2000000, implicitDefEqProofs := false}) (disch := omega) only [↓reduceIte, go_sem, Int.reduceToNat, Nat.reduceAdd, Nat.reduceLeDiff, Nat.reduceEqDiff, Nat.reduceSub, Nat.reduceMul, reduceCtorEq] <;> rfl) ⟨by simp, by simp⟩ ?_
  rintro ⟨k, v1, v2⟩ ⟨hk, hlen⟩
  simp only at hk hlen
  generalize hs : (ms.take k).foldl split1 ([], []) = s at hlen
  simp (config := {maxSteps := 2000000, implicitDefEqProofs := false}) (disch := omega) only [↓reduceIte, go_sem, Int.reduceToNat, Nat.reduceAdd, Nat.reduceLeDiff, Nat.reduceEqDiff, Nat.reduceSub, Nat.reduceMul, reduceCtorEq, hs]
  refine ifD (fun h1 => ?_) (fun h1 => ?_)
  · obtain ⟨m, hm⟩ : ∃ a, ms[k]? = some a := ⟨_, List.getElem?_eq_getElem (by omega)⟩
    have hf := foldl_take split1 ([], []) hm
    rw [hs] at hf
    have hlen' := split1_len s m
    simp (config := {maxSteps := 2000000, implicitDefEqProofs := false}) (disch := omega) only [↓reduceIte, go_sem, Int.reduceToNat, Nat.reduceAdd, Nat.reduceLeDiff, Nat.reduceEqDiff, Nat.reduceSub, Nat.reduceMul, reduceCtorEq]
    refine loopL (σ := Nat) (fun j => ⟨[(0, .sl (ms.map encM)), (3, .hs 3 v1 0 s.1.length), (4, .hs 4 v2 0 s.2.length), (5, .int .i64 (k : Nat)), (6, .bool ((s.1.take j).any fun o => decide (o.to = m.to))), (7, .int .i64 (j : Nat))],
      [(3, .arr v1 7 (s.1.map encM)), (4, .arr v2 7 (s.2.map encM))]⟩) (fun j => j ≤ s.1.length) (fun j => s.1.length - j) 0 (by simp (config := {maxSteps := 2000000, implicitDefEqProofs := false}) (disch := omega) only [↓reduceIte, go_sem, Int.reduceToNat, Nat.reduceAdd, Nat.reduceLeDiff, Nat.reduceEqDiff, Nat.reduceSub, Nat.reduceMul, reduceCtorEq] <;> rfl) (by simp) ?_
    rintro j hj
    simp (config := {maxSteps := 2000000, implicitDefEqProofs := false}) (disch := omega) only [↓reduceIte, go_sem, Int.reduceToNat, Nat.reduceAdd, Nat.reduceLeDiff, Nat.reduceEqDiff, Nat.reduceSub, Nat.reduceMul, reduceCtorEq]
    refine ifD (fun h2 => ?_) (fun h2 => ?_)
    · obtain ⟨o, ho⟩ : ∃ a, s.1[j]? = some a := ⟨_, List.getElem?_eq_getElem (by omega)⟩
      have hany := any_take (fun o : Move => decide (o.to = m.to)) ho
      simp (config := {maxSteps := 2000000, implicitDefEqProofs := false}) (disch := omega) only [↓reduceIte, go_sem, Int.reduceToNat, Nat.reduceAdd, Nat.reduceLeDiff, Nat.reduceEqDiff, Nat.reduceSub, Nat.reduceMul, reduceCtorEq]
      refine ifL (fun h3 => ?_) (fun h3 => ?_)
      · simp (config := {maxSteps := 2000000, implicitDefEqProofs := false}) (disch := omega) only [↓reduceIte, go_sem, Int.reduceToNat, Nat.reduceAdd, Nat.reduceLeDiff, Nat.reduceEqDiff, Nat.reduceSub, Nat.reduceMul, reduceCtorEq]
        refine accL (by kernel_rfl) ?_
        simp (config := {maxSteps := 2000000, implicitDefEqProofs := false}) (disch := omega) only [↓reduceIte, go_sem, Int.reduceToNat, Nat.reduceAdd, Nat.reduceLeDiff, Nat.reduceEqDiff, Nat.reduceSub, Nat.reduceMul, reduceCtorEq]
        refine ⟨j + 1, ?_, by omega, by omega⟩
        simp only [hany, h3, Bool.true_or]
        simp
      · simp (config := {maxSteps := 2000000, implicitDefEqProofs := false}) (disch := omega) only [↓reduceIte, go_sem, Int.reduceToNat, Nat.reduceAdd, Nat.reduceLeDiff, Nat.reduceEqDiff, Nat.reduceSub, Nat.reduceMul, reduceCtorEq, hm, ho, encM, eqL]
        refine accL (by kernel_rfl) ?_
        simp (config := {maxSteps := 2000000, implicitDefEqProofs := false}) (disch := omega) only [↓reduceIte, go_sem, Int.reduceToNat, Nat.reduceAdd, Nat.reduceLeDiff, Nat.reduceEqDiff, Nat.reduceSub, Nat.reduceMul, reduceCtorEq]
        refine ⟨j + 1, ?_, by omega, by omega⟩
        simp only [hany, h3, Bool.false_or]
        simp
    · simp (config := {maxSteps := 2000000, implicitDefEqProofs := false}) (disch := omega) only [↓reduceIte, go_sem, Int.reduceToNat, Nat.reduceAdd, Nat.reduceLeDiff, Nat.reduceEqDiff, Nat.reduceSub, Nat.reduceMul, reduceCtorEq]
      have : j = s.1.length := by omega
      subst this
      simp (config := {maxSteps := 2000000, implicitDefEqProofs := false}) (disch := omega) only [↓reduceIte, go_sem, Int.reduceToNat, Nat.reduceAdd, Nat.reduceLeDiff, Nat.reduceEqDiff, Nat.reduceSub, Nat.reduceMul, reduceCtorEq, List.take_length, hm, encM, eqL]
      refine ifD (fun h3 => ?_) (fun h3 => ?_)
      · simp (config := {maxSteps := 2000000, implicitDefEqProofs := false}) (disch := omega) only [↓reduceIte, go_sem, Int.reduceToNat, Nat.reduceAdd, Nat.reduceLeDiff, Nat.reduceEqDiff, Nat.reduceSub, Nat.reduceMul, reduceCtorEq]
        refine accL (by kernel_rfl) ?_
        simp (config := {maxSteps := 2000000, implicitDefEqProofs := false}) (disch := omega) only [↓reduceIte, go_sem, Int.reduceToNat, Nat.reduceAdd, Nat.reduceLeDiff, Nat.reduceEqDiff, Nat.reduceSub, Nat.reduceMul, reduceCtorEq, hm, encM, eqL]
        refine accL (by kernel_rfl) ?_
        simp (config := {maxSteps := 2000000, implicitDefEqProofs := false}) (disch := omega) only [↓reduceIte, go_sem, Int.reduceToNat, Nat.reduceAdd, Nat.reduceLeDiff, Nat.reduceEqDiff, Nat.reduceSub, Nat.reduceMul, reduceCtorEq, h3]
        refine ⟨(k + 1, v1, v2), by simp [hf, split1, h3], ⟨by simp only; omega, by simp only [hf]; omega⟩, by simp only; omega⟩
      · simp (config := {maxSteps := 2000000, implicitDefEqProofs := false}) (disch := omega) only [↓reduceIte, go_sem, Int.reduceToNat, Nat.reduceAdd, Nat.reduceLeDiff, Nat.reduceEqDiff, Nat.reduceSub, Nat.reduceMul, reduceCtorEq]
        refine accL (by kernel_rfl) ?_
        simp (config := {maxSteps := 2000000, implicitDefEqProofs := false}) (disch := omega) only [↓reduceIte, go_sem, Int.reduceToNat, Nat.reduceAdd, Nat.reduceLeDiff, Nat.reduceEqDiff, Nat.reduceSub, Nat.reduceMul, reduceCtorEq]
        refine ifL (fun h4 => ?_) (fun h4 => ?_)
        · rw [List.take_length] at h4
          have hs1 : split1 s m = (s.1, s.2 ++ [m]) := by
            unfold split1
            rw [if_neg h3, if_pos h4]
          rw [hs1] at hf
          simp (config := {maxSteps := 2000000, implicitDefEqProofs := false}) (disch := omega) only [↓reduceIte, go_sem, Int.reduceToNat, Nat.reduceAdd, Nat.reduceLeDiff, Nat.reduceEqDiff, Nat.reduceSub, Nat.reduceMul, reduceCtorEq, hm, encM]
          refine ⟨(k + 1, v1, v2 + 1), by simp [hf, encM], ⟨by simp only; omega, by simp only [hf, List.length_append, List.length_cons, List.length_nil]; omega⟩, by simp only; omega⟩
        · simp (config := {maxSteps := 2000000, implicitDefEqProofs := false}) (disch := omega) only [↓reduceIte, go_sem, Int.reduceToNat, Nat.reduceAdd, Nat.reduceLeDiff, Nat.reduceEqDiff, Nat.reduceSub, Nat.reduceMul, reduceCtorEq, hm, encM, eqL]
          refine accL (by kernel_rfl) ?_
          rw [List.take_length] at h4
          have hs1 : split1 s m = (s.1 ++ [m], s.2) := by
            unfold split1
            rw [if_neg h3, if_neg (by simp [h4])]
          rw [hs1] at hf
          simp (config := {maxSteps := 2000000, implicitDefEqProofs := false}) (disch := omega) only [↓reduceIte, go_sem, Int.reduceToNat, Nat.reduceAdd, Nat.reduceLeDiff, Nat.reduceEqDiff, Nat.reduceSub, Nat.reduceMul, reduceCtorEq, h3, hm, encM]
          refine ⟨(k + 1, v1 + 1, v2), by simp [hf, encM], ⟨by simp only; omega, by simp only [hf, List.length_append, List.length_cons, List.length_nil]; omega⟩, by simp only; omega⟩
  · simp (config := {maxSteps := 2000000, implicitDefEqProofs := false}) (disch := omega) only [↓reduceIte, go_sem, Int.reduceToNat, Nat.reduceAdd, Nat.reduceLeDiff, Nat.reduceEqDiff, Nat.reduceSub, Nat.reduceMul, reduceCtorEq]
    have : k = ms.length := by omega
    subst this
    rw [List.take_length] at hs
    have hsp : split ms = s := hs
    unfold refOrder
    rw [hsp]
    obtain ⟨f0, late⟩ := s
    simp only at hlen ⊢
    refine loopL (σ := List Move × List Ins × Nat) (fun s => ⟨[(3, .sl (s.1.map encM)), (4, .sl (late.map encM)), (8, .hs 8 s.2.2 0 s.2.1.length)], [(8, .arr s.2.2 10 (s.2.1.map encI))]⟩)
      (fun s => s.2.1.length + s.1.length ≤ ms.length - late.length ∧ s.2.1 ++ orderG s.1.length s.1 = orderG f0.length f0) (fun s => s.1.length) (f0, [], 0) (by simp (config := {maxSteps := 2000000, implicitDefEqProofs := false}) (disch := omega) only [↓reduceIte, go_sem, Int.reduceToNat, Nat.reduceAdd, Nat.reduceLeDiff, Nat.reduceEqDiff, Nat.reduceSub, Nat.reduceMul, reduceCtorEq] <;> rfl) ⟨by simp; omega, by simp⟩ ?_
    rintro ⟨f, out, w⟩ ⟨hln, ho⟩
    simp only at hln ho
    simp (config := {maxSteps := 2000000, implicitDefEqProofs := false}) (disch := omega) only [↓reduceIte, go_sem, Int.reduceToNat, Nat.reduceAdd, Nat.reduceLeDiff, Nat.reduceEqDiff, Nat.reduceSub, Nat.reduceMul, reduceCtorEq]
    refine ifD (fun h1 => ?_) (fun h1 => ?_)
    · have hne : f ≠ [] := by rintro rfl; simp at h1
      obtain ⟨n, hn⟩ : ∃ n, f.length = n + 1 := ⟨f.length - 1, by simp at h1; omega⟩
      simp (config := {maxSteps := 2000000, implicitDefEqProofs := false}) (disch := omega) only [↓reduceIte, go_sem, Int.reduceToNat, Nat.reduceAdd, Nat.reduceLeDiff, Nat.reduceEqDiff, Nat.reduceSub, Nat.reduceMul, reduceCtorEq]
      refine loopL (σ := Nat) (fun j => ⟨[(3, .sl (f.map encM)), (4, .sl (late.map encM)), (8, .hs 8 w 0 out.length), (9, .int .i64 (j : Nat))], [(8, .arr w 10 (out.map encI))]⟩)
        (fun j => j ≤ f.length ∧ ∀ x ∈ f.take j, open_ f x = false) (fun j => f.length - j) 0 (by simp (config := {maxSteps := 2000000, implicitDefEqProofs := false}) (disch := omega) only [↓reduceIte, go_sem, Int.reduceToNat, Nat.reduceAdd, Nat.reduceLeDiff, Nat.reduceEqDiff, Nat.reduceSub, Nat.reduceMul, reduceCtorEq] <;> rfl) ⟨by simp, by simp⟩ ?_
      rintro j ⟨hj, hop⟩
      simp (config := {maxSteps := 2000000, implicitDefEqProofs := false}) (disch := omega) only [↓reduceIte, go_sem, Int.reduceToNat, Nat.reduceAdd, Nat.reduceLeDiff, Nat.reduceEqDiff, Nat.reduceSub, Nat.reduceMul, reduceCtorEq]
      refine ifD (fun h2 => ?_) (fun h2 => ?_)
      · obtain ⟨m, hm⟩ : ∃ a, f[j]? = some a := ⟨_, List.getElem?_eq_getElem (by omega)⟩
        simp (config := {maxSteps := 2000000, implicitDefEqProofs := false}) (disch := omega) only [↓reduceIte, go_sem, Int.reduceToNat, Nat.reduceAdd, Nat.reduceLeDiff, Nat.reduceEqDiff, Nat.reduceSub, Nat.reduceMul, reduceCtorEq, hm, encM]
        refine callL (C29 f m.to (by omega)) ?_
        simp (config := {maxSteps := 2000000, implicitDefEqProofs := false}) (disch := omega) only [↓reduceIte, go_sem, Int.reduceToNat, Nat.reduceAdd, Nat.reduceLeDiff, Nat.reduceEqDiff, Nat.reduceSub, Nat.reduceMul, reduceCtorEq, idxOf_any]
        have hopm : open_ f m = !(f.any fun o => decide (o.fr = m.to)) := rfl
        refine ifL (fun h3 => ?_) (fun h3 => ?_)
        · simp (config := {maxSteps := 2000000, implicitDefEqProofs := false}) (disch := omega) only [↓reduceIte, go_sem, Int.reduceToNat, Nat.reduceAdd, Nat.reduceLeDiff, Nat.reduceEqDiff, Nat.reduceSub, Nat.reduceMul, reduceCtorEq]
          refine ⟨j + 1, by simp, ⟨by omega, take_ext hm hop (by rw [hopm, h3]; rfl)⟩, by omega⟩
        · have hom : open_ f m = true := by rw [hopm, h3]; rfl
          have hi : f.findIdx? (open_ f) = some j := by
            have h5 := idxOf_at hm hom hop
            unfold idxOf at h5
            split at h5
            · rename_i i hi
              rw [hi]
              congr 1
              omega
            · omega
          have hmb : f[j]! = m := by
            have := get_bang (l := f) (k := j) (by omega)
            rw [hm] at this
            exact (Option.some.inj this).symm
          simp (config := {maxSteps := 2000000, implicitDefEqProofs := false}) (disch := omega) only [↓reduceIte, go_sem, Int.reduceToNat, Nat.reduceAdd, Nat.reduceLeDiff, Nat.reduceEqDiff, Nat.reduceSub, Nat.reduceMul, reduceCtorEq, hm, encM]
          refine callL (C10 m) ?_
          simp (config := {maxSteps := 2000000, implicitDefEqProofs := false}) (disch := omega) only [↓reduceIte, go_sem, Int.reduceToNat, Nat.reduceAdd, Nat.reduceLeDiff, Nat.reduceEqDiff, Nat.reduceSub, Nat.reduceMul, reduceCtorEq, encI]
          refine callL (C30 f j (by omega) (by omega)) ?_
          simp (config := {maxSteps := 2000000, implicitDefEqProofs := false}) (disch := omega) only [↓reduceIte, go_sem, Int.reduceToNat, Nat.reduceAdd, Nat.reduceLeDiff, Nat.reduceEqDiff, Nat.reduceSub, Nat.reduceMul, reduceCtorEq]
          have he : (f.eraseIdx j).length = f.length - 1 := List.length_eraseIdx_of_lt (by omega)
          refine ⟨(f.eraseIdx j, out ++ [one m], w + 1), by simp [encI], ⟨by simp; omega, ?_⟩, by simp only; omega⟩
          rw [← ho, hn]
          simp only [orderG, if_neg hne, hi]
          rw [orderG_fuel n (f.eraseIdx j) _ (by omega) (Nat.le_refl _), hmb]
          simp
      · simp (config := {maxSteps := 2000000, implicitDefEqProofs := false}) (disch := omega) only [↓reduceIte, go_sem, Int.reduceToNat, Nat.reduceAdd, Nat.reduceLeDiff, Nat.reduceEqDiff, Nat.reduceSub, Nat.reduceMul, reduceCtorEq]
        have hjj : j = f.length := by omega
        subst hjj
        rw [List.take_length] at hop
        have hi : f.findIdx? (open_ f) = none := List.findIdx?_eq_none_iff.2 hop
        refine loopL (σ := Nat) (fun j => ⟨[(3, .sl (f.map encM)), (4, .sl (late.map encM)), (8, .hs 8 w 0 out.length), (9, .int .i64 (j : Nat))], [(8, .arr w 10 (out.map encI))]⟩)
          (fun j => j + 1 ≤ f.length ∧ ∀ x ∈ f.take j, (x.fr.kind == 2) = false) (fun j => f.length - j) 0 (by simp (config := {maxSteps := 2000000, implicitDefEqProofs := false}) (disch := omega) only [↓reduceIte, go_sem, Int.reduceToNat, Nat.reduceAdd, Nat.reduceLeDiff, Nat.reduceEqDiff, Nat.reduceSub, Nat.reduceMul, reduceCtorEq] <;> rfl) ⟨by omega, by simp⟩ ?_
        rintro j ⟨hj, hnk⟩
        simp (config := {maxSteps := 2000000, implicitDefEqProofs := false}) (disch := omega) only [↓reduceIte, go_sem, Int.reduceToNat, Nat.reduceAdd, Nat.reduceLeDiff, Nat.reduceEqDiff, Nat.reduceSub, Nat.reduceMul, reduceCtorEq]
        refine ifD (fun h3 => ?_) (fun h3 => ?_)
        · obtain ⟨m, hm⟩ : ∃ a, f[j]? = some a := ⟨_, List.getElem?_eq_getElem (by omega)⟩
          simp (config := {maxSteps := 2000000, implicitDefEqProofs := false}) (disch := omega) only [↓reduceIte, go_sem, Int.reduceToNat, Nat.reduceAdd, Nat.reduceLeDiff, Nat.reduceEqDiff, Nat.reduceSub, Nat.reduceMul, reduceCtorEq, hm, encM]
          refine ifE (fun h4 => ?_) (fun h4 => ?_)
          · have hR : refK f = j := refK_at hnk hm (by first | exact .inl h4 | exact .inr (by omega))
            have hmb : f[refK f]! = m := by
              have := get_bang (l := f) (k := refK f) (by omega)
              rw [hR, hm] at this
              rw [hR]
              exact (Option.some.inj this).symm
            have hany : f.any (fun o => decide (o.fr = m.to)) = true := by
              have := hop m (List.mem_of_getElem? hm)
              simpa [open_] using this
            have hk2 : kOf (fun o => decide (o.fr = m.to)) f < f.length := kOf_lt hne
            have hix := idxOf_kOf hany
            have hm2 := get_bang hk2
            have hT : turnI f (refK f) = swapI m.to m.v m.fr f[kOf (fun o => decide (o.fr = m.to)) f]!.v := by
              unfold turnI
              rw [hmb]
            generalize hmm2 : f[kOf (fun o => decide (o.fr = m.to)) f]! = m2 at *
            simp (config := {maxSteps := 2000000, implicitDefEqProofs := false}) (disch := omega) only [↓reduceIte, go_sem, Int.reduceToNat, Nat.reduceAdd, Nat.reduceLeDiff, Nat.reduceEqDiff, Nat.reduceSub, Nat.reduceMul, reduceCtorEq, hm, encM]
            refine callL (C24 m.to m.v) ?_
            simp (config := {maxSteps := 2000000, implicitDefEqProofs := false}) (disch := omega) only [↓reduceIte, go_sem, Int.reduceToNat, Nat.reduceAdd, Nat.reduceLeDiff, Nat.reduceEqDiff, Nat.reduceSub, Nat.reduceMul, reduceCtorEq]
            refine callL (C29 f m.to (by omega)) ?_
            simp (config := {maxSteps := 2000000, implicitDefEqProofs := false}) (disch := omega) only [↓reduceIte, go_sem, Int.reduceToNat, Nat.reduceAdd, Nat.reduceLeDiff, Nat.reduceEqDiff, Nat.reduceSub, Nat.reduceMul, reduceCtorEq, hix, hm2, encM]
            refine callL (C24 m.fr m2.v) ?_
            simp (config := {maxSteps := 2000000, implicitDefEqProofs := false}) (disch := omega) only [↓reduceIte, go_sem, Int.reduceToNat, Nat.reduceAdd, Nat.reduceLeDiff, Nat.reduceEqDiff, Nat.reduceSub, Nat.reduceMul, reduceCtorEq, encO]
            refine accL (by kernel_rfl) ?_
            simp (config := {maxSteps := 2000000, implicitDefEqProofs := false}) (disch := omega) only [↓reduceIte, go_sem, Int.reduceToNat, Nat.reduceAdd, Nat.reduceLeDiff, Nat.reduceEqDiff, Nat.reduceSub, Nat.reduceMul, reduceCtorEq]
            generalize hI : swapI m.to m.v m.fr m2.v = I at hT
            refine loopL (σ := Nat × Nat) (fun s => ⟨[(3, .sl (f.map encM)), (4, .sl (late.map encM)), (8, .hs 8 (w + 1) 0 (out.length + 1)), (9, .int .i64 (j : Nat)), (10, .rp (encM m)), (11, .hs 11 s.2 0 ((f.take s.1).foldl (left1 m j) ([], 0)).1.length), (12, .int .i64 (s.1 : Nat))],
                [(8, .arr (w + 1) 10 ((out ++ [I]).map encI)), (11, .arr s.2 7 (((f.take s.1).foldl (left1 m j) ([], 0)).1.map encM))]⟩)
              (fun s => s.1 ≤ f.length) (fun s => f.length - s.1) (0, 0) (by simp (config := {maxSteps := 2000000, implicitDefEqProofs := false}) (disch := omega) only [↓reduceIte, go_sem, Int.reduceToNat, Nat.reduceAdd, Nat.reduceLeDiff, Nat.reduceEqDiff, Nat.reduceSub, Nat.reduceMul, reduceCtorEq]; rw [← hI]; simp [encI, encO, encM, swapI]) (by simp) ?_
            rintro ⟨q, v⟩ hqq
            simp only at hqq
            obtain ⟨hlq, hcnt⟩ := left1_len m j (f.take q) ([], 0)
            generalize hs2 : (f.take q).foldl (left1 m j) ([], 0) = s at hlq hcnt
            obtain ⟨L, c⟩ := s
            simp only [List.length_take, List.length_nil, Nat.zero_add, Nat.min_eq_left hqq] at hlq hcnt
            rw [hcnt] at hs2
            simp (config := {maxSteps := 2000000, implicitDefEqProofs := false}) (disch := omega) only [↓reduceIte, go_sem, Int.reduceToNat, Nat.reduceAdd, Nat.reduceLeDiff, Nat.reduceEqDiff, Nat.reduceSub, Nat.reduceMul, reduceCtorEq, hs2]
            refine ifD (fun g1 => ?_) (fun g1 => ?_)
            · obtain ⟨o, ho2⟩ : ∃ a, f[q]? = some a := ⟨_, List.getElem?_eq_getElem (by omega)⟩
              have hf := foldl_take (left1 m j) ([], 0) ho2
              rw [hs2] at hf
              simp (config := {maxSteps := 2000000, implicitDefEqProofs := false}) (disch := omega) only [↓reduceIte, go_sem, Int.reduceToNat, Nat.reduceAdd, Nat.reduceLeDiff, Nat.reduceEqDiff, Nat.reduceSub, Nat.reduceMul, reduceCtorEq, ho2, encM, eqL]
              refine ifD (fun h => ?_) (fun h => ?_)
              · simp (config := {maxSteps := 2000000, implicitDefEqProofs := false}) (disch := omega) only [↓reduceIte, go_sem, Int.reduceToNat, Nat.reduceAdd, Nat.reduceLeDiff, Nat.reduceEqDiff, Nat.reduceSub, Nat.reduceMul, reduceCtorEq, encM, eqL]
                refine ifE (fun g2 => ?_) (fun g2 => ?_)
                · have g2' : q = j := by omega
                  simp (config := {maxSteps := 2000000, implicitDefEqProofs := false}) (disch := omega) only [↓reduceIte, go_sem, Int.reduceToNat, Nat.reduceAdd, Nat.reduceLeDiff, Nat.reduceEqDiff, Nat.reduceSub, Nat.reduceMul, reduceCtorEq, encM]
                  have hf' : left1 m j (L, q) o = (L, q + 1) := by
                    unfold left1
                    simp only [if_pos h]
                    rw [if_neg (by simp [g2'])]
                  rw [hf'] at hf
                  exact ⟨(q + 1, v), by simp [hf, encM], by simp only; omega, by simp only; omega⟩
                · have g2' : q ≠ j := by omega
                  simp (config := {maxSteps := 2000000, implicitDefEqProofs := false}) (disch := omega) only [↓reduceIte, go_sem, Int.reduceToNat, Nat.reduceAdd, Nat.reduceLeDiff, Nat.reduceEqDiff, Nat.reduceSub, Nat.reduceMul, reduceCtorEq, encM, eqL]
                  refine ifD (fun g3 => ?_) (fun g3 => ?_)
                  · simp (config := {maxSteps := 2000000, implicitDefEqProofs := false}) (disch := omega) only [↓reduceIte, go_sem, Int.reduceToNat, Nat.reduceAdd, Nat.reduceLeDiff, Nat.reduceEqDiff, Nat.reduceSub, Nat.reduceMul, reduceCtorEq, encM]
                    have hf' : left1 m j (L, q) o = (L, q + 1) := by
                      unfold left1
                      simp only [if_pos h]
                      rw [if_neg (by simp [g3])]
                    rw [hf'] at hf
                    exact ⟨(q + 1, v), by simp [hf, encM], by simp only; omega, by simp only; omega⟩
                  · simp (config := {maxSteps := 2000000, implicitDefEqProofs := false}) (disch := omega) only [↓reduceIte, go_sem, Int.reduceToNat, Nat.reduceAdd, Nat.reduceLeDiff, Nat.reduceEqDiff, Nat.reduceSub, Nat.reduceMul, reduceCtorEq, encM]
                    have hf' : left1 m j (L, q) o = (L ++ [⟨o.v, m.fr, o.to⟩], q + 1) := by
                      unfold left1
                      simp only [if_pos h]
                      rw [if_pos ⟨g2', g3⟩]
                    rw [hf'] at hf
                    exact ⟨(q + 1, v + 1), by simp [hf, encM], by simp only; omega, by simp only; omega⟩
              · simp (config := {maxSteps := 2000000, implicitDefEqProofs := false}) (disch := omega) only [↓reduceIte, go_sem, Int.reduceToNat, Nat.reduceAdd, Nat.reduceLeDiff, Nat.reduceEqDiff, Nat.reduceSub, Nat.reduceMul, reduceCtorEq, encM, eqL]
                refine ifE (fun g2 => ?_) (fun g2 => ?_)
                · have g2' : q = j := by omega
                  simp (config := {maxSteps := 2000000, implicitDefEqProofs := false}) (disch := omega) only [↓reduceIte, go_sem, Int.reduceToNat, Nat.reduceAdd, Nat.reduceLeDiff, Nat.reduceEqDiff, Nat.reduceSub, Nat.reduceMul, reduceCtorEq, encM]
                  have hf' : left1 m j (L, q) o = (L, q + 1) := by
                    unfold left1
                    simp only [if_neg h]
                    rw [if_neg (by simp [g2'])]
                  rw [hf'] at hf
                  exact ⟨(q + 1, v), by simp [hf, encM], by simp only; omega, by simp only; omega⟩
                · have g2' : q ≠ j := by omega
                  simp (config := {maxSteps := 2000000, implicitDefEqProofs := false}) (disch := omega) only [↓reduceIte, go_sem, Int.reduceToNat, Nat.reduceAdd, Nat.reduceLeDiff, Nat.reduceEqDiff, Nat.reduceSub, Nat.reduceMul, reduceCtorEq, encM, eqL]
                  refine ifD (fun g3 => ?_) (fun g3 => ?_)
                  · simp (config := {maxSteps := 2000000, implicitDefEqProofs := false}) (disch := omega) only [↓reduceIte, go_sem, Int.reduceToNat, Nat.reduceAdd, Nat.reduceLeDiff, Nat.reduceEqDiff, Nat.reduceSub, Nat.reduceMul, reduceCtorEq, encM]
                    have hf' : left1 m j (L, q) o = (L, q + 1) := by
                      unfold left1
                      simp only [if_neg h]
                      rw [if_neg (by simp [g3])]
                    rw [hf'] at hf
                    exact ⟨(q + 1, v), by simp [hf, encM], by simp only; omega, by simp only; omega⟩
                  · simp (config := {maxSteps := 2000000, implicitDefEqProofs := false}) (disch := omega) only [↓reduceIte, go_sem, Int.reduceToNat, Nat.reduceAdd, Nat.reduceLeDiff, Nat.reduceEqDiff, Nat.reduceSub, Nat.reduceMul, reduceCtorEq, encM]
                    have hf' : left1 m j (L, q) o = (L ++ [o], q + 1) := by
                      unfold left1
                      simp only [if_neg h]
                      rw [if_pos ⟨g2', g3⟩]
                    rw [hf'] at hf
                    exact ⟨(q + 1, v + 1), by simp [hf, encM], by simp only; omega, by simp only; omega⟩
            · simp (config := {maxSteps := 2000000, implicitDefEqProofs := false}) (disch := omega) only [↓reduceIte, go_sem, Int.reduceToNat, Nat.reduceAdd, Nat.reduceLeDiff, Nat.reduceEqDiff, Nat.reduceSub, Nat.reduceMul, reduceCtorEq]
              have hqe : q = f.length := by omega
              subst hqe
              rw [List.take_length] at hs2
              have hL : leftL m j f = L := by rw [leftL, hs2]
              have hLl := leftL_len' m (show j < f.length by omega)
              rw [hL] at hLl
              refine ⟨(L, out ++ [I], w + 1), by simp, ⟨by simp; omega, ?_⟩, by simp only; omega⟩
              rw [← ho, hn]
              simp only [orderG, if_neg hne, hi]
              rw [hT, hmb, hR, hL, orderG_fuel n L _ (by omega) (Nat.le_refl _)]
              simp
          · simp (config := {maxSteps := 2000000, implicitDefEqProofs := false}) (disch := omega) only [↓reduceIte, go_sem, Int.reduceToNat, Nat.reduceAdd, Nat.reduceLeDiff, Nat.reduceEqDiff, Nat.reduceSub, Nat.reduceMul, reduceCtorEq]
            refine ⟨j + 1, by simp, ⟨by omega, take_ext hm hnk (by simp [h4])⟩, by omega⟩
        · obtain ⟨m, hm⟩ : ∃ a, f[j]? = some a := ⟨_, List.getElem?_eq_getElem (by omega)⟩
          simp (config := {maxSteps := 2000000, implicitDefEqProofs := false}) (disch := omega) only [↓reduceIte, go_sem, Int.reduceToNat, Nat.reduceAdd, Nat.reduceLeDiff, Nat.reduceEqDiff, Nat.reduceSub, Nat.reduceMul, reduceCtorEq]
          have hR : refK f = j := refK_at hnk hm (by first | exact .inl h4 | exact .inr (by omega))
          have hmb : f[refK f]! = m := by
            have := get_bang (l := f) (k := refK f) (by omega)
            rw [hR, hm] at this
            rw [hR]
            exact (Option.some.inj this).symm
          have hany : f.any (fun o => decide (o.fr = m.to)) = true := by
            have := hop m (List.mem_of_getElem? hm)
            simpa [open_] using this
          have hk2 : kOf (fun o => decide (o.fr = m.to)) f < f.length := kOf_lt hne
          have hix := idxOf_kOf hany
          have hm2 := get_bang hk2
          have hT : turnI f (refK f) = swapI m.to m.v m.fr f[kOf (fun o => decide (o.fr = m.to)) f]!.v := by
            unfold turnI
            rw [hmb]
          generalize hmm2 : f[kOf (fun o => decide (o.fr = m.to)) f]! = m2 at *
          simp (config := {maxSteps := 2000000, implicitDefEqProofs := false}) (disch := omega) only [↓reduceIte, go_sem, Int.reduceToNat, Nat.reduceAdd, Nat.reduceLeDiff, Nat.reduceEqDiff, Nat.reduceSub, Nat.reduceMul, reduceCtorEq, hm, encM]
          refine callL (C24 m.to m.v) ?_
          simp (config := {maxSteps := 2000000, implicitDefEqProofs := false}) (disch := omega) only [↓reduceIte, go_sem, Int.reduceToNat, Nat.reduceAdd, Nat.reduceLeDiff, Nat.reduceEqDiff, Nat.reduceSub, Nat.reduceMul, reduceCtorEq]
          refine callL (C29 f m.to (by omega)) ?_
          simp (config := {maxSteps := 2000000, implicitDefEqProofs := false}) (disch := omega) only [↓reduceIte, go_sem, Int.reduceToNat, Nat.reduceAdd, Nat.reduceLeDiff, Nat.reduceEqDiff, Nat.reduceSub, Nat.reduceMul, reduceCtorEq, hix, hm2, encM]
          refine callL (C24 m.fr m2.v) ?_
          simp (config := {maxSteps := 2000000, implicitDefEqProofs := false}) (disch := omega) only [↓reduceIte, go_sem, Int.reduceToNat, Nat.reduceAdd, Nat.reduceLeDiff, Nat.reduceEqDiff, Nat.reduceSub, Nat.reduceMul, reduceCtorEq, encO]
          refine accL (by kernel_rfl) ?_
          simp (config := {maxSteps := 2000000, implicitDefEqProofs := false}) (disch := omega) only [↓reduceIte, go_sem, Int.reduceToNat, Nat.reduceAdd, Nat.reduceLeDiff, Nat.reduceEqDiff, Nat.reduceSub, Nat.reduceMul, reduceCtorEq]
          generalize hI : swapI m.to m.v m.fr m2.v = I at hT
          refine loopL (σ := Nat × Nat) (fun s => ⟨[(3, .sl (f.map encM)), (4, .sl (late.map encM)), (8, .hs 8 (w + 1) 0 (out.length + 1)), (9, .int .i64 (j : Nat)), (10, .rp (encM m)), (11, .hs 11 s.2 0 ((f.take s.1).foldl (left1 m j) ([], 0)).1.length), (12, .int .i64 (s.1 : Nat))],
              [(8, .arr (w + 1) 10 ((out ++ [I]).map encI)), (11, .arr s.2 7 (((f.take s.1).foldl (left1 m j) ([], 0)).1.map encM))]⟩)
            (fun s => s.1 ≤ f.length) (fun s => f.length - s.1) (0, 0) (by simp (config := {maxSteps := 2000000, implicitDefEqProofs := false}) (disch := omega) only [↓reduceIte, go_sem, Int.reduceToNat, Nat.reduceAdd, Nat.reduceLeDiff, Nat.reduceEqDiff, Nat.reduceSub, Nat.reduceMul, reduceCtorEq]; rw [← hI]; simp [encI, encO, encM, swapI]) (by simp) ?_
          rintro ⟨q, v⟩ hqq
          simp only at hqq
          obtain ⟨hlq, hcnt⟩ := left1_len m j (f.take q) ([], 0)
          generalize hs2 : (f.take q).foldl (left1 m j) ([], 0) = s at hlq hcnt
          obtain ⟨L, c⟩ := s
          simp only [List.length_take, List.length_nil, Nat.zero_add, Nat.min_eq_left hqq] at hlq hcnt
          rw [hcnt] at hs2
          simp (config := {maxSteps := 2000000, implicitDefEqProofs := false}) (disch := omega) only [↓reduceIte, go_sem, Int.reduceToNat, Nat.reduceAdd, Nat.reduceLeDiff, Nat.reduceEqDiff, Nat.reduceSub, Nat.reduceMul, reduceCtorEq, hs2]
          refine ifD (fun g1 => ?_) (fun g1 => ?_)
          · obtain ⟨o, ho2⟩ : ∃ a, f[q]? = some a := ⟨_, List.getElem?_eq_getElem (by omega)⟩
            have hf := foldl_take (left1 m j) ([], 0) ho2
            rw [hs2] at hf
            simp (config := {maxSteps := 2000000, implicitDefEqProofs := false}) (disch := omega) only [↓reduceIte, go_sem, Int.reduceToNat, Nat.reduceAdd, Nat.reduceLeDiff, Nat.reduceEqDiff, Nat.reduceSub, Nat.reduceMul, reduceCtorEq, ho2, encM, eqL]
            refine ifD (fun h => ?_) (fun h => ?_)
            · simp (config := {maxSteps := 2000000, implicitDefEqProofs := false}) (disch := omega) only [↓reduceIte, go_sem, Int.reduceToNat, Nat.reduceAdd, Nat.reduceLeDiff, Nat.reduceEqDiff, Nat.reduceSub, Nat.reduceMul, reduceCtorEq, encM, eqL]
              refine ifE (fun g2 => ?_) (fun g2 => ?_)
              · have g2' : q = j := by omega
                simp (config := {maxSteps := 2000000, implicitDefEqProofs := false}) (disch := omega) only [↓reduceIte, go_sem, Int.reduceToNat, Nat.reduceAdd, Nat.reduceLeDiff, Nat.reduceEqDiff, Nat.reduceSub, Nat.reduceMul, reduceCtorEq, encM]
                have hf' : left1 m j (L, q) o = (L, q + 1) := by
                  unfold left1
                  simp only [if_pos h]
                  rw [if_neg (by simp [g2'])]
                rw [hf'] at hf
                exact ⟨(q + 1, v), by simp [hf, encM], by simp only; omega, by simp only; omega⟩
              · have g2' : q ≠ j := by omega
                simp (config := {maxSteps := 2000000, implicitDefEqProofs := false}) (disch := omega) only [↓reduceIte, go_sem, Int.reduceToNat, Nat.reduceAdd, Nat.reduceLeDiff, Nat.reduceEqDiff, Nat.reduceSub, Nat.reduceMul, reduceCtorEq, encM, eqL]
                refine ifD (fun g3 => ?_) (fun g3 => ?_)
                · simp (config := {maxSteps := 2000000, implicitDefEqProofs := false}) (disch := omega) only [↓reduceIte, go_sem, Int.reduceToNat, Nat.reduceAdd, Nat.reduceLeDiff, Nat.reduceEqDiff, Nat.reduceSub, Nat.reduceMul, reduceCtorEq, encM]
                  have hf' : left1 m j (L, q) o = (L, q + 1) := by
                    unfold left1
                    simp only [if_pos h]
                    rw [if_neg (by simp [g3])]
                  rw [hf'] at hf
                  exact ⟨(q + 1, v), by simp [hf, encM], by simp only; omega, by simp only; omega⟩
                · simp (config := {maxSteps := 2000000, implicitDefEqProofs := false}) (disch := omega) only [↓reduceIte, go_sem, Int.reduceToNat, Nat.reduceAdd, Nat.reduceLeDiff, Nat.reduceEqDiff, Nat.reduceSub, Nat.reduceMul, reduceCtorEq, encM]
                  have hf' : left1 m j (L, q) o = (L ++ [⟨o.v, m.fr, o.to⟩], q + 1) := by
                    unfold left1
                    simp only [if_pos h]
                    rw [if_pos ⟨g2', g3⟩]
                  rw [hf'] at hf
                  exact ⟨(q + 1, v + 1), by simp [hf, encM], by simp only; omega, by simp only; omega⟩
            · simp (config := {maxSteps := 2000000, implicitDefEqProofs := false}) (disch := omega) only [↓reduceIte, go_sem, Int.reduceToNat, Nat.reduceAdd, Nat.reduceLeDiff, Nat.reduceEqDiff, Nat.reduceSub, Nat.reduceMul, reduceCtorEq, encM, eqL]
              refine ifE (fun g2 => ?_) (fun g2 => ?_)
              · have g2' : q = j := by omega
                simp (config := {maxSteps := 2000000, implicitDefEqProofs := false}) (disch := omega) only [↓reduceIte, go_sem, Int.reduceToNat, Nat.reduceAdd, Nat.reduceLeDiff, Nat.reduceEqDiff, Nat.reduceSub, Nat.reduceMul, reduceCtorEq, encM]
                have hf' : left1 m j (L, q) o = (L, q + 1) := by
                  unfold left1
                  simp only [if_neg h]
                  rw [if_neg (by simp [g2'])]
                rw [hf'] at hf
                exact ⟨(q + 1, v), by simp [hf, encM], by simp only; omega, by simp only; omega⟩
              · have g2' : q ≠ j := by omega
                simp (config := {maxSteps := 2000000, implicitDefEqProofs := false}) (disch := omega) only [↓reduceIte, go_sem, Int.reduceToNat, Nat.reduceAdd, Nat.reduceLeDiff, Nat.reduceEqDiff, Nat.reduceSub, Nat.reduceMul, reduceCtorEq, encM, eqL]
                refine ifD (fun g3 => ?_) (fun g3 => ?_)
                · simp (config := {maxSteps := 2000000, implicitDefEqProofs := false}) (disch := omega) only [↓reduceIte, go_sem, Int.reduceToNat, Nat.reduceAdd, Nat.reduceLeDiff, Nat.reduceEqDiff, Nat.reduceSub, Nat.reduceMul, reduceCtorEq, encM]
                  have hf' : left1 m j (L, q) o = (L, q + 1) := by
                    unfold left1
                    simp only [if_neg h]
                    rw [if_neg (by simp [g3])]
                  rw [hf'] at hf
                  exact ⟨(q + 1, v), by simp [hf, encM], by simp only; omega, by simp only; omega⟩
                · simp (config := {maxSteps := 2000000, implicitDefEqProofs := false}) (disch := omega) only [↓reduceIte, go_sem, Int.reduceToNat, Nat.reduceAdd, Nat.reduceLeDiff, Nat.reduceEqDiff, Nat.reduceSub, Nat.reduceMul, reduceCtorEq, encM]
                  have hf' : left1 m j (L, q) o = (L ++ [o], q + 1) := by
                    unfold left1
                    simp only [if_neg h]
                    rw [if_pos ⟨g2', g3⟩]
                  rw [hf'] at hf
                  exact ⟨(q + 1, v + 1), by simp [hf, encM], by simp only; omega, by simp only; omega⟩
          · simp (config := {maxSteps := 2000000, implicitDefEqProofs := false}) (disch := omega) only [↓reduceIte, go_sem, Int.reduceToNat, Nat.reduceAdd, Nat.reduceLeDiff, Nat.reduceEqDiff, Nat.reduceSub, Nat.reduceMul, reduceCtorEq]
            have hqe : q = f.length := by omega
            subst hqe
            rw [List.take_length] at hs2
            have hL : leftL m j f = L := by rw [leftL, hs2]
            have hLl := leftL_len' m (show j < f.length by omega)
            rw [hL] at hLl
            refine ⟨(L, out ++ [I], w + 1), by simp, ⟨by simp; omega, ?_⟩, by simp only; omega⟩
            rw [← ho, hn]
            simp only [orderG, if_neg hne, hi]
            rw [hT, hmb, hR, hL, orderG_fuel n L _ (by omega) (Nat.le_refl _)]
            simp
    · have hf : f = [] := by
        cases f with
        | nil => rfl
        | cons a r => exact absurd (by simp) h1
      subst hf
      simp only [List.length_nil, orderG, List.append_nil, Nat.add_zero] at ho hln
      rw [← ho]
      simp (config := {maxSteps := 2000000, implicitDefEqProofs := false}) (disch := omega) only [↓reduceIte, go_sem, Int.reduceToNat, Nat.reduceAdd, Nat.reduceLeDiff, Nat.reduceEqDiff, Nat.reduceSub, Nat.reduceMul, reduceCtorEq]
      refine loopL (σ := Nat × Nat) (fun s => ⟨[(4, .sl (late.map encM)), (8, .hs 8 s.2 0 (out ++ (late.take s.1).map one).length), (14, .int .i64 (s.1 : Nat))], [(8, .arr s.2 10 ((out ++ (late.take s.1).map one).map encI))]⟩)
        (fun s => s.1 ≤ late.length) (fun s => late.length - s.1) (0, w) (by simp (config := {maxSteps := 2000000, implicitDefEqProofs := false}) (disch := omega) only [↓reduceIte, go_sem, Int.reduceToNat, Nat.reduceAdd, Nat.reduceLeDiff, Nat.reduceEqDiff, Nat.reduceSub, Nat.reduceMul, reduceCtorEq]; simp) (by simp) ?_
      rintro ⟨k, w⟩ hk
      simp only at hk
      simp (config := {maxSteps := 2000000, implicitDefEqProofs := false}) (disch := omega) only [↓reduceIte, go_sem, Int.reduceToNat, Nat.reduceAdd, Nat.reduceLeDiff, Nat.reduceEqDiff, Nat.reduceSub, Nat.reduceMul, reduceCtorEq]
      refine ifD (fun h2 => ?_) (fun h2 => ?_)
      · obtain ⟨m, hm⟩ : ∃ a, late[k]? = some a := ⟨_, List.getElem?_eq_getElem (by omega)⟩
        simp (config := {maxSteps := 2000000, implicitDefEqProofs := false}) (disch := omega) only [↓reduceIte, go_sem, Int.reduceToNat, Nat.reduceAdd, Nat.reduceLeDiff, Nat.reduceEqDiff, Nat.reduceSub, Nat.reduceMul, reduceCtorEq, hm, encM]
        refine callL (C10 m) ?_
        have hb : ((out ++ (late.take k).map one).length : Int) ≤ 1000000 := by simp; omega
        simp (config := {maxSteps := 2000000, implicitDefEqProofs := false}) (disch := omega) only [↓reduceIte, go_sem, Int.reduceToNat, Nat.reduceAdd, Nat.reduceLeDiff, Nat.reduceEqDiff, Nat.reduceSub, Nat.reduceMul, reduceCtorEq, encI]
        refine ⟨(k + 1, w + 1), ?_, by simp only; omega, by simp only; omega⟩
        have : out ++ (late.take (k + 1)).map one = out ++ (late.take k).map one ++ [one m] := by
          rw [List.take_add_one, hm]
          simp
        simp only [this]
        simp [encI]
        omega
      · simp (config := {maxSteps := 2000000, implicitDefEqProofs := false}) (disch := omega) only [↓reduceIte, go_sem, Int.reduceToNat, Nat.reduceAdd, Nat.reduceLeDiff, Nat.reduceEqDiff, Nat.reduceSub, Nat.reduceMul, reduceCtorEq]
        have : k = late.length := by omega
        subst this
        simp only [List.take_length]
        exact ⟨rfl, rfl⟩
end Go.Proofs.Ytapfnhhedieebaa.X
