import Derived.Test.YtapfnhhedieebaaM29C
namespace Go.Proofs.Ytapfnhhedieebaa.X
open Go Go.AM Go.Proofs
attribute [local go_sem ↓] w_skip w_lbl w_ops w_draw w_pre w_post w_seq w_cond w_block w_loop w_exit w_ret w_scope th_n th_e th_r bk_n bk_r bk_e t_nil t_it t_call i_nil i_one i_grp s_nil s_cons c_call e_mv e_frz o_mov o_bin o_eq o_un o_conv o_len o_slen o_idx o_aix o_fad o_load o_store o_boxp o_boxo o_boxm o_alloc o_alloca o_nilarr o_build o_bslp o_bslo o_slc o_sslc o_slc3 o_sidx o_mkfn o_ext o_pick o_callf o_callb o_appd o_clear o_mxn o_field o_nilc o_make k_int k_str k_bool k_grb k_grt k_some k_none k_arr k_lens k_lenf k_lenh k_idxs k_idxf k_idxh k_ld k_loadp k_loadr k_loade k_storer k_storee k_oin k_ois k_slcs k_slcf k_slch k_slc3s k_slc3f k_slc3h k_app2 k_apps k_appf k_apph k_cals k_cald b_add b_sub b_mul b_quo b_rem b_and b_or b_xor b_andNot b_eql b_neq b_lss b_leq b_gtr b_geq b_shl b_shr b_seq b_sne b_slt b_sad q_bool q_str q_nil q_nilf u_not u_neg u_xor f_ret f_nor v_r v_c v_reg v_ob v_set v_put v_so v_sn v_pn v_pc g_nil d_nil p_nil m_mv m_fr z_nil z_cons z_an z_ac g_cons d_cons p_cons y_mov y_bin y_eq y_un y_conv y_len y_slen y_idx y_aix y_fad y_load y_store y_boxp y_boxo y_boxm y_alloc y_alloca y_nilarr y_build y_bslp y_bslo y_slc y_sslc y_slc3 y_sidx y_mkfn y_ext y_pick y_callf y_callb y_appd y_clear y_mxn y_field y_nilc y_make nb_if
attribute [local go_sem] VL_mk VL2_mk If_t If_f If_not If_and If_or If_dt If_df If_et If_ef If_ne Ck_t Ck_h Opt_s ld_a ld_c renL ren keepR renA idxM invL getObs mapOb renOb allNone putAll fzR fzO fz fzL fzOb frzOk upFrom mapR resOne resA cellsOf oneA oneAL isP isPL okSt kRows kParts fillA setAt bor bor0 key0 keysA scalar eqC evNil evNilF List.map_cons List.map_nil List.cons_append List.nil_append List.append_nil List.drop_zero List.drop_succ_cons List.drop_nil List.take_succ_cons List.take_zero List.take_nil List.length_cons List.length_nil List.length_map List.getElem?_map Option.map_some Option.map_none Int.toNat_natCast Int.toNat_zero Int.toNat_one Int.natCast_nonneg List.flatMap_cons List.flatMap_nil List.all_cons List.all_nil Bool.and_true Bool.true_and Bool.and_false Bool.false_and Bool.not_true Bool.not_false beq_self_eq_true nb_self all_nil List.forall_mem_cons tk_map tk_app bs_self bs_dec bq_t bq_f Bool.not_not decide_true decide_false Bool.not_not and_self and_true true_and eq_self List.reverse_cons List.reverse_nil List.getElem?_cons_zero List.getElem?_cons_succ cond_true cond_false List.set_cons_zero List.set_cons_succ Nat.zero_add Nat.add_zero if_true if_false ite_true ite_false implies_true wrap64 wrap8
set_option linter.unusedVariables false
set_option linter.unusedSimpArgs false
set_option maxRecDepth 10000
theorem C25 (out : List Ins) (i : Ins) (v : Nat) (hl : out.length < 1000000) :
    Ctr Try.prog 25 [.agg (encI i), .ref 0 0] [.box [.hs 1 v 0 out.length], .arr v 10 (out.map encI)]
      (fun r o => ∃ v', r = [] ∧ o = [.box [.hs 1 v' 0 (out ++ [i]).length], .arr v' 10 ((out ++ [i]).map encI)]) := by
  apply ctr_b A25_ok rfl (Nat.le_of_ble_eq_true rfl)
  unfold A25
  simp only [initL, Nat.reduceAdd]
  simp (config := {maxSteps := 2000000, implicitDefEqProofs := false}) (disch := omega) only [↓reduceIte, go_sem, Int.reduceToNat, Nat.reduceAdd, Nat.reduceLeDiff, Nat.reduceEqDiff, Nat.reduceSub, Nat.reduceMul, reduceCtorEq, encI]
  exact ⟨v + 1, by simp [encI]⟩
def orderF : Nat → List Move → List Ins
  | 0, _ => []
  | n + 1, f => if f = [] then [] else match f.findIdx? (open_ f) with
    | some k => one f[k]! :: orderF n (f.eraseIdx k)
    | none => turnI f (turnK f) :: orderF n (leftL f[turnK f]! (turnK f) f)
def order (l : List Move) : List Ins := orderF (split l).1.length (split l).1 ++ (split l).2.map one
theorem left1_lt (m : Move) (k : Nat) (l : List Move) (s : List Move × Nat) (h1 : s.2 ≤ k) (h2 : k < s.2 + l.length) : (l.foldl (left1 m k) s).1.length + 1 ≤ s.1.length + l.length := by
  induction l generalizing s with
  | nil => simp at h2; omega
  | cons o l ih =>
    simp only [List.foldl_cons, List.length_cons] at h2 ⊢
    have h4 : (left1 m k s o).2 = s.2 + 1 := rfl
    by_cases hk : s.2 = k
    · have h5 := (left1_len m k l (left1 m k s o)).1
      have h3 : (left1 m k s o).1 = s.1 := by
        unfold left1
        simp [hk]
      rw [h3] at h5
      omega
    · have h3 : (left1 m k s o).1.length ≤ s.1.length + 1 := by
        unfold left1
        simp only
        repeat' split
        all_goals simp
      have := ih (left1 m k s o) (by omega) (by omega)
      omega
theorem leftL_len {f : List Move} (h : f ≠ []) : (leftL f[turnK f]! (turnK f) f).length < f.length := by
  have hk : turnK f < f.length := kOf_lt h
  have := left1_lt f[turnK f]! (turnK f) f ([], 0) (Nat.zero_le _) (by simpa using hk)
  simp only [List.length_nil, Nat.zero_add] at this
  exact this
theorem orderF_fuel : ∀ (n : Nat) (f : List Move) (j : Nat), f.length ≤ n → f.length ≤ j → orderF n f = orderF j f
  | 0, f, j, h, hj => by
    have : f = [] := List.length_eq_zero_iff.1 (by omega)
    subst this
    cases j <;> simp [orderF]
  | n + 1, f, 0, h, hj => by
    have : f = [] := List.length_eq_zero_iff.1 (by omega)
    subst this
    simp [orderF]
  | n + 1, f, j + 1, h, hj => by
    simp only [orderF]
    by_cases hf : f = []
    · simp [hf]
    · rw [if_neg hf, if_neg hf]
      split
      · rename_i k hk
        rw [List.findIdx?_eq_some_iff_getElem] at hk
        obtain ⟨hk, _⟩ := hk
        have := List.length_eraseIdx_of_lt hk
        rw [orderF_fuel n _ j (by omega) (by omega)]
      · have := leftL_len hf
        rw [orderF_fuel n _ j (by omega) (by omega)]
theorem idxOf_some {p : Move → Bool} {l : List Move} {k : Nat} (h : l.findIdx? p = some k) : idxOf p l = k ∧ k < l.length := by
  refine ⟨by rw [idxOf, h], ?_⟩
  rw [List.findIdx?_eq_some_iff_getElem] at h
  exact h.1
theorem idxOf_none {p : Move → Bool} {l : List Move} (h : l.findIdx? p = none) : idxOf p l = -1 := by rw [idxOf, h]
theorem split_len (l : List Move) : (split l).1.length + (split l).2.length ≤ l.length := by
  have : ∀ (l : List Move) (s : List Move × List Move), (l.foldl split1 s).1.length + (l.foldl split1 s).2.length ≤ s.1.length + s.2.length + l.length := by
    intro l
    induction l with
    | nil => intro s; simp
    | cons m l ih =>
      intro s
      have h1 := ih (split1 s m)
      have h2 := split1_len s m
      simp only [List.foldl_cons, List.length_cons]
      omega
  have := this l ([], [])
  simp only [List.length_nil, Nat.zero_add] at this
  exact this
theorem C12 (l : List Move) (hl : l.length < 100000) : Ctr Try.prog 12 [.sl (l.map encM)] [] (ret [.sl ((order l).map encI)]) := by
  apply ctr_b A12_ok rfl (Nat.le_of_ble_eq_true rfl)
  unfold A12
  simp only [initL, Nat.reduceAdd]
  simp (config := {maxSteps := 2000000, implicitDefEqProofs := false}) (disch := omega) only [↓reduceIte, go_sem, Int.reduceToNat, Nat.reduceAdd, Nat.reduceLeDiff, Nat.reduceEqDiff, Nat.reduceSub, Nat.reduceMul, reduceCtorEq]
  refine callO (C19 l (by omega)) ?_
  rintro res obs ⟨v1, v2, rfl, rfl⟩
  refine ⟨rfl, ?_⟩
  simp (config := {maxSteps := 2000000, implicitDefEqProofs := false}) (disch := omega) only [↓reduceIte, go_sem, Int.reduceToNat, Nat.reduceAdd, Nat.reduceLeDiff, Nat.reduceEqDiff, Nat.reduceSub, Nat.reduceMul, reduceCtorEq]
  have hsl := split_len l
  unfold order
  generalize (split l).1 = f0 at *
  generalize (split l).2 = late at *
  refine loopL (σ := List Move × List (List AV) × Nat × List Ins × Nat) (fun s => ⟨[(3, .hs 60 s.2.2.1 0 s.1.length), (4, .sl (late.map encM)), (5, .ref 5 0), (6, .fn 25 [.ref 5 0])], [(5, .box [.hs 1005 s.2.2.2.2 0 s.2.2.2.1.length]), (60, .arr s.2.2.1 7 (s.1.map encM ++ s.2.1)), (1005, .arr s.2.2.2.2 10 (s.2.2.2.1.map encI))]⟩)
    (fun s => s.2.2.2.1.length + s.1.length ≤ l.length - late.length ∧ s.2.2.2.1 ++ orderF s.1.length s.1 = orderF f0.length f0) (fun s => s.1.length) (f0, [], v1, [], 0) (by simp (config := {maxSteps := 2000000, implicitDefEqProofs := false}) (disch := omega) only [↓reduceIte, go_sem, Int.reduceToNat, Nat.reduceAdd, Nat.reduceLeDiff, Nat.reduceEqDiff, Nat.reduceSub, Nat.reduceMul, reduceCtorEq]) ⟨by simp; omega, by simp⟩ ?_
  rintro ⟨f, junk, v, out, w⟩ ⟨hlen, ho⟩
  simp only at hlen ho
  simp (config := {maxSteps := 2000000, implicitDefEqProofs := false}) (disch := omega) only [↓reduceIte, go_sem, Int.reduceToNat, Nat.reduceAdd, Nat.reduceLeDiff, Nat.reduceEqDiff, Nat.reduceSub, Nat.reduceMul, reduceCtorEq]
  refine ifD (fun h1 => ?_) (fun h1 => ?_)
  · have hne : f ≠ [] := by rintro rfl; simp at h1
    simp (config := {maxSteps := 2000000, implicitDefEqProofs := false}) (disch := omega) only [↓reduceIte, go_sem, Int.reduceToNat, Nat.reduceAdd, Nat.reduceLeDiff, Nat.reduceEqDiff, Nat.reduceSub, Nat.reduceMul, reduceCtorEq, List.length_append]
    refine callL (C26 f (by omega)) ?_
    obtain ⟨n, hn⟩ : ∃ n, f.length = n + 1 := ⟨f.length - 1, by simp at h1; omega⟩
    cases hi : f.findIdx? (open_ f) with
    | some k =>
      obtain ⟨hi1, hi2⟩ := idxOf_some hi
      have hm := get_bang hi2
      have e1 : (f.map encM ++ junk)[k]? = some (encM f[k]!) := by
        rw [List.getElem?_append_left (by simpa using hi2), List.getElem?_map, hm]
        rfl
      simp (config := {maxSteps := 2000000, implicitDefEqProofs := false}) (disch := omega) only [↓reduceIte, go_sem, Int.reduceToNat, Nat.reduceAdd, Nat.reduceLeDiff, Nat.reduceEqDiff, Nat.reduceSub, Nat.reduceMul, reduceCtorEq, hi1, e1, Int.natCast_nonneg, encM, Nat.zero_add]
      refine callL (C9 f[k]!) ?_
      simp (config := {maxSteps := 2000000, implicitDefEqProofs := false}) (disch := omega) only [↓reduceIte, go_sem, Int.reduceToNat, Nat.reduceAdd, Nat.reduceLeDiff, Nat.reduceEqDiff, Nat.reduceSub, Nat.reduceMul, reduceCtorEq]
      refine callO (C25 out (one f[k]!) w (by omega)) ?_
      rintro res obs ⟨w', rfl, rfl⟩
      refine ⟨rfl, ?_⟩
      simp (config := {maxSteps := 2000000, implicitDefEqProofs := false}) (disch := omega) only [↓reduceIte, go_sem, Int.reduceToNat, Nat.reduceAdd, Nat.reduceLeDiff, Nat.reduceEqDiff, Nat.reduceSub, Nat.reduceMul, reduceCtorEq]
      refine callO (C27 f junk v k hi2 (by omega)) ?_
      rintro res obs ⟨junk', rfl, rfl⟩
      refine ⟨rfl, ?_⟩
      simp (config := {maxSteps := 2000000, implicitDefEqProofs := false}) (disch := omega) only [↓reduceIte, go_sem, Int.reduceToNat, Nat.reduceAdd, Nat.reduceLeDiff, Nat.reduceEqDiff, Nat.reduceSub, Nat.reduceMul, reduceCtorEq]
      have he : (f.eraseIdx k).length = f.length - 1 := List.length_eraseIdx_of_lt hi2
      refine ⟨(f.eraseIdx k, junk', v, out ++ [one f[k]!], w'), by simp [he], ⟨by simp; omega, ?_⟩, by simp only; omega⟩
      rw [← ho, he, hn]
      simp [orderF, hne, hi]
    | none =>
      have hi1 := idxOf_none hi
      simp (config := {maxSteps := 2000000, implicitDefEqProofs := false}) (disch := omega) only [↓reduceIte, go_sem, Int.reduceToNat, Nat.reduceAdd, Nat.reduceLeDiff, Nat.reduceEqDiff, Nat.reduceSub, Nat.reduceMul, reduceCtorEq, hi1]
      refine callO (C28 f junk v hne (by omega)) ?_
      rintro res obs ⟨v', rfl, rfl⟩
      refine ⟨rfl, ?_⟩
      simp (config := {maxSteps := 2000000, implicitDefEqProofs := false}) (disch := omega) only [↓reduceIte, go_sem, Int.reduceToNat, Nat.reduceAdd, Nat.reduceLeDiff, Nat.reduceEqDiff, Nat.reduceSub, Nat.reduceMul, reduceCtorEq, encI]
      refine callO (C25 out (turnI f (turnK f)) w (by omega)) ?_
      rintro res obs ⟨w', rfl, rfl⟩
      refine ⟨rfl, ?_⟩
      simp (config := {maxSteps := 2000000, implicitDefEqProofs := false}) (disch := omega) only [↓reduceIte, go_sem, Int.reduceToNat, Nat.reduceAdd, Nat.reduceLeDiff, Nat.reduceEqDiff, Nat.reduceSub, Nat.reduceMul, reduceCtorEq]
      have he := leftL_len hne
      have hord : orderF (n + 1) f = turnI f (turnK f) :: orderF (leftL f[turnK f]! (turnK f) f).length (leftL f[turnK f]! (turnK f) f) := by
        simp only [orderF, if_neg hne, hi]
        rw [orderF_fuel n _ _ (by omega) (Nat.le_refl _)]
      generalize leftL f[turnK f]! (turnK f) f = g at *
      refine ⟨(g, [], v', out ++ [turnI f (turnK f)], w'), by simp, ⟨by simp; omega, ?_⟩, by simp only; omega⟩
      rw [← ho, hn, hord]
      simp
  · have hf : f = [] := by
      cases f with
      | nil => rfl
      | cons a r => exact absurd (by simp) h1
    subst hf
    simp only [List.length_nil, orderF, List.append_nil, Nat.add_zero] at ho hlen
    rw [← ho]
    simp (config := {maxSteps := 2000000, implicitDefEqProofs := false}) (disch := omega) only [↓reduceIte, go_sem, Int.reduceToNat, Nat.reduceAdd, Nat.reduceLeDiff, Nat.reduceEqDiff, Nat.reduceSub, Nat.reduceMul, reduceCtorEq]
    refine loopL (σ := Nat × Nat) (fun s => ⟨[(5, .ref 5 0), (6, .fn 25 [.ref 5 0]), (46, .sl (late.map encM)), (47, .int .i64 late.length), (48, .int .i64 (s.1 : Nat))], [(5, .box [.hs 1005 s.2 0 (out ++ (late.take s.1).map one).length]), (1005, .arr s.2 10 ((out ++ (late.take s.1).map one).map encI))]⟩)
      (fun s => s.1 ≤ late.length) (fun s => late.length - s.1) (0, w) (by simp (config := {maxSteps := 2000000, implicitDefEqProofs := false}) (disch := omega) only [↓reduceIte, go_sem, Int.reduceToNat, Nat.reduceAdd, Nat.reduceLeDiff, Nat.reduceEqDiff, Nat.reduceSub, Nat.reduceMul, reduceCtorEq]; simp) (by simp) ?_
    rintro ⟨k, w⟩ hk
    simp only at hk
    simp (config := {maxSteps := 2000000, implicitDefEqProofs := false}) (disch := omega) only [↓reduceIte, go_sem, Int.reduceToNat, Nat.reduceAdd, Nat.reduceLeDiff, Nat.reduceEqDiff, Nat.reduceSub, Nat.reduceMul, reduceCtorEq]
    refine ifD (fun h2 => ?_) (fun h2 => ?_)
    · obtain ⟨m, hm⟩ : ∃ a, late[k]? = some a := ⟨_, List.getElem?_eq_getElem (by omega)⟩
      simp (config := {maxSteps := 2000000, implicitDefEqProofs := false}) (disch := omega) only [↓reduceIte, go_sem, Int.reduceToNat, Nat.reduceAdd, Nat.reduceLeDiff, Nat.reduceEqDiff, Nat.reduceSub, Nat.reduceMul, reduceCtorEq, hm, encM, Int.natCast_nonneg]
      refine callL (C9 m) ?_
      simp (config := {maxSteps := 2000000, implicitDefEqProofs := false}) (disch := omega) only [↓reduceIte, go_sem, Int.reduceToNat, Nat.reduceAdd, Nat.reduceLeDiff, Nat.reduceEqDiff, Nat.reduceSub, Nat.reduceMul, reduceCtorEq]
      refine callO (C25 (out ++ (late.take k).map one) (one m) w (by simp; omega)) ?_
      rintro res obs ⟨w', rfl, rfl⟩
      refine ⟨rfl, ?_⟩
      simp (config := {maxSteps := 2000000, implicitDefEqProofs := false}) (disch := omega) only [↓reduceIte, go_sem, Int.reduceToNat, Nat.reduceAdd, Nat.reduceLeDiff, Nat.reduceEqDiff, Nat.reduceSub, Nat.reduceMul, reduceCtorEq]
      refine ⟨(k + 1, w'), ?_, by simp only; omega, by simp only; omega⟩
      have : out ++ (late.take (k + 1)).map one = out ++ (late.take k).map one ++ [one m] := by
        rw [List.take_add_one, hm]
        simp
      simp only [this]
      simp
    · simp (config := {maxSteps := 2000000, implicitDefEqProofs := false}) (disch := omega) only [↓reduceIte, go_sem, Int.reduceToNat, Nat.reduceAdd, Nat.reduceLeDiff, Nat.reduceEqDiff, Nat.reduceSub, Nat.reduceMul, reduceCtorEq]
      have : k = late.length := by omega
      subst this
      simp only [List.take_length]
      exact ⟨rfl, rfl⟩
end Go.Proofs.Ytapfnhhedieebaa.X
